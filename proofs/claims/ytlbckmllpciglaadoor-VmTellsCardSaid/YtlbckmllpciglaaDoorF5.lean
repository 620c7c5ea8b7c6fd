/- The framework, part 5: SyReg, SyDraw, SyDraw2, SyDraw3, SyDraw4 -/
import Derived.Test.YtlbckmllpciglaaDoorF4
import Derived.Orders
import Derived.Tactics
set_option linter.unusedVariables false
set_option linter.unusedSimpArgs false
set_option linter.all false

/- Regions whose order is the text's. -/
namespace Sy
open Go Go.RowKit

theorem asB_bool (b : Bool) : (D.bool b).asB = b := rfl
theorem imp_ev {G : Nat → D} {ρ : List D} {e : Ex} : ∀ {pc : PC}, (((imp pc e).ev G ρ).asB = true) ↔ (pcOK G ρ pc = true → (e.ev G ρ).asB = true)
  | [] => by simp [imp, pcOK]
  | (c, b) :: l => by
    have ih := imp_ev (G := G) (ρ := ρ) (e := e) (pc := l)
    cases b <;> simp only [imp, Ex.ev, U3.ev, pcOK, Bool.and_eq_true, beq_iff_eq]
    · split
      · rename_i hc; simp [hc, asB_bool]
      · rename_i hc
        have hc' : (c.ev G ρ).asB = false := by simpa using hc
        simp only [hc', true_and]
        exact ih
    · split
      · rename_i hc; simp only [hc, true_and]; exact ih
      · rename_i hc
        have hc' : (c.ev G ρ).asB = false := by simpa using hc
        simp [hc', asB_bool]
theorem pcOK_snoc {G : Nat → D} {ρ : List D} {e : Ex} {b : Bool} : ∀ {pc : PC}, pcOK G ρ (pc ++ [(e, b)]) = (pcOK G ρ pc && ((e.ev G ρ).asB == b))
  | [] => by simp [pcOK]
  | (c, b') :: l => by simp only [List.cons_append, pcOK, pcOK_snoc (pc := l), Bool.and_assoc]
theorem padAt_get (l : List D) : ∀ (m i j : Nat), j < m → (padAt l i m)[j]? = some (at_ l (i + j))
  | 0, i, j, h => by omega
  | m + 1, i, 0, _ => by simp [padAt]
  | m + 1, i, j + 1, h => by
    simp only [padAt, List.getElem?_cons_succ, padAt_get l m (i + 1) j (by omega)]
    congr 2
    omega
theorem padAt_len (l : List D) : ∀ (m i : Nat), (padAt l i m).length = m
  | 0, _ => rfl
  | m + 1, i => by simp [padAt, padAt_len l m]
theorem pad_len (l : List D) (m : Nat) : (pad m l).length = m := padAt_len l m 0
theorem at_pad {ρ : List D} {m : Nat} {rs : List D} {j : Nat} {d : D} (h : rs[j]? = some d) (hj : j < m) : at_ (ρ ++ pad m rs) (ρ.length + j) = d := by
  have := padAt_get rs m 0 j hj
  have h2 : (ρ ++ pad m rs)[ρ.length + j]? = some (at_ rs j) := by
    rw [List.getElem?_append_right (by omega)]
    simpa [pad] using this
  rw [at_get h2]
  exact at_get h

section
variable {C : Ctx} {Γ : Fns} {N : Nat} {ρ : List D}
/-- What stands ahead of an operation. -/
theorem wrapPre_ok {pc : PC} {k : IL} {out : Out} {pre : List Pre} (hs : preSc ρ.length pre = true) (hp : preN pre = 0 ∨ pcSc ρ.length pc = true) (hr : run C.G Γ N (wrapPre pc pre k) ρ = some out) :
    ∃ l, l.length = preN pre ∧ (pcOK C.G ρ pc = true → Passed C Γ (ρ ++ l) ρ.length pre) ∧ run C.G Γ N k (ρ ++ l) = some out := by
  have chks : ∀ {pre : List Pre}, pre.all (isChk ρ.length) = true → run C.G Γ N (wrapPre pc pre k) ρ = some out → preN pre = 0 ∧ (pcOK C.G ρ pc = true → ∀ e, Pre.chk e ∈ pre → (e.ev C.G ρ).asB = true) ∧ run C.G Γ N k ρ = some out := by
    intro pre
    induction pre with
    | nil => exact fun _ hr => ⟨rfl, fun _ e he => by simp at he, hr⟩
    | cons x pre ih =>
      intro hall hr
      simp only [List.all_cons, Bool.and_eq_true] at hall
      cases x with
      | chk e =>
        simp only [wrapPre, run] at hr
        split at hr
        · rename_i hc
          obtain ⟨h1, h2, h3⟩ := ih hall.2 hr
          refine ⟨by simpa [preN] using h1, fun hpc e' he' => ?_, h3⟩
          rcases List.mem_cons.1 he' with he' | he'
          · simp only [Pre.chk.injEq] at he'
            subst he'
            exact imp_ev.1 hc hpc
          · exact h2 hpc e' he'
        · simp at hr
      | _ => simp [isChk] at hall
  have isC : ∀ {pre : List Pre}, pre.all (isChk ρ.length) = true → (∀ m f es, pre ≠ [.call m f es]) ∧ ∀ m g es, pre ≠ [.callv m g es] := by
    intro pre h
    refine ⟨?_, ?_⟩ <;> (rintro _ _ _ rfl; simp [isChk] at h)
  unfold preSc at hs
  split at hs
  · rename_i m f args
    simp only [wrapPre, run] at hr
    split at hr
    · rename_i hpc
      cases hΓ : Γ f (evs C.G ρ args) with
      | none => simp [hΓ] at hr
      | some rs =>
        simp only [hΓ, Option.bind_some] at hr
        refine ⟨pad m rs, by simp [pad_len, preN], fun _ => ⟨by simp, fun m' f' es' he => ?_, by simp⟩, hr⟩
        simp only [List.cons.injEq, Pre.call.injEq, and_true] at he
        obtain ⟨rfl, rfl, rfl⟩ := he
        exact ⟨rs, by rw [evs_append hs]; exact hΓ, fun j d hj hm => at_pad hj hm⟩
    · rename_i hpc
      exact ⟨pad m [], by simp [pad_len, preN], fun h => absurd h hpc, hr⟩
  · rename_i m fe args
    simp only [Bool.and_eq_true] at hs
    simp only [wrapPre, run] at hr
    split at hr
    · rename_i hpc
      cases hΓ : callD Γ (fe.ev C.G ρ) (evs C.G ρ args) with
      | none => simp [hΓ] at hr
      | some rs =>
        simp only [hΓ, Option.bind_some] at hr
        refine ⟨pad m rs, by simp [pad_len, preN], fun _ => ⟨by simp, by simp, fun m' f' es' he => ?_⟩, hr⟩
        simp only [List.cons.injEq, Pre.callv.injEq, and_true] at he
        obtain ⟨rfl, rfl, rfl⟩ := he
        exact ⟨rs, by rw [evs_append hs.2, Ex.ev_append hs.1]; exact hΓ, fun j d hj hm => at_pad hj hm⟩
    · rename_i hpc
      exact ⟨pad m [], by simp [pad_len, preN], fun h => absurd h hpc, hr⟩
  · obtain ⟨h1, h2, h3⟩ := chks hs hr
    refine ⟨[], by simp [h1], fun hpc => ?_, by simpa using h3⟩
    have := isC hs
    exact ⟨by simpa using h2 hpc, fun m f es he => absurd he (this.1 m f es), fun m g es he => absurd he (this.2 m g es)⟩
end

section
variable {C : Ctx} {w0 : World} {ok0 : Nat → Prop} {ρ : List D} {s : S} {β : Be} {a : Act} {w : World} {pc : PC}

theorem opv_ok (HG : GOK C w0 ok0) (Hok : ∀ b, ok0 b → b < w0.heap.size) (h : SimB C w0 ok0 ρ s β a w) {more : PC} (hpc : pcOK C.G ρ pc = true) (hm : pcOK C.G ρ more = true) {x : Operand} {v : SV} (hx : opv C s pc more x = some v) : RepSV C ρ β w (okk C w0 ok0 ρ s β w) v (a.eval x) := by
  unfold opv at hx
  cases x with
  | tmp t =>
    simp only at hx
    split at hx
    · rename_i q u hl
      split at hx
      · rename_i hs
        simp only [Option.some.injEq] at hx
        subst hx
        have := h.sl t _ hl
        unfold RepSV at this
        rw [if_pos (subPC_ok hs (pcOK_append hm hpc))] at this
        exact this
      · simp at hx
    · exact h.sl t v hx
  | const v' =>
    simp only at hx
    split at hx
    · split at hx
      · rename_i hk
        simp only [Option.some.injEq] at hx
        subst hx
        exact RepV.mkInt hk
      · simp at hx
    · simp only [Option.some.injEq] at hx
      subst hx
      exact RepV.mkBool
    · rename_i b
      split at hx
      · rename_i hk
        simp only [Option.some.injEq] at hx
        subst hx
        have := RepV.mkStr (C := C) (w := w) (ok := okk C w0 ok0 ρ s β w) (s := b.data.toList) (by omega)
        simpa [RepSV, Ex.ev, Act.eval] using this
      · simp at hx
    · simp only [Option.some.injEq] at hx
      subst hx
      rfl
    · simp only [Option.some.injEq] at hx
      subst hx
      rfl
    · simp at hx
  | global g =>
    simp only at hx
    cases hg : C.gk g with
    | none => simp [hg] at hx
    | some t =>
      simp only [hg, Option.map_some, Option.some.injEq] at hx
      subst hx
      have := (HG g t hg).keep (w' := w) (ok' := okk C w0 ok0 ρ s β w) (fun b hb => .inl ⟨hb, Hok b hb⟩) fun b hb => h.below.block b (Hok b hb)
      simp only [RepSV, Ex.ev, U1.ev, D.asP]
      exact this
  | func f =>
    simp only [Option.some.injEq] at hx
    subst hx
    exact ⟨[], [], rfl, rfl, rfl⟩

def GuardSays (C : Ctx) (ρ : List D) (b : Bool) : Option PC → Prop
  | some pc => b = true ↔ pcOK C.G ρ pc = true
  | none => b = false
/-- A guard, and what is known of it. -/
theorem guard_ok (h : SimB C w0 ok0 ρ s β a w) {ops : Array Oper} {o : Oper} {r : Option PC} (hg : guardPC ops.toList s o.guard = some r) :
    GuardSays C ρ (Region.wanted o (yielded ops a.tmps)) r := by
  unfold Region.wanted
  cases hgd : o.guard with
  | none =>
    rw [hgd] at hg
    simp only [guardPC, Option.some.injEq] at hg
    subst hg
    simp [GuardSays, pcOK]
  | some y =>
    obtain ⟨j, want⟩ := y
    rw [hgd] at hg
    simp only [guardPC] at hg
    cases hj : ops.toList[j]? with
    | none => simp [hj] at hg
    | some oj =>
      simp only [hj] at hg
      cases hd : oj.dst with
      | none => simp [hd] at hg
      | some t =>
        simp only [hd] at hg
        have hj' : ops[j]? = some oj := by simpa using hj
        have hy : yielded ops a.tmps j = match a.tmps[t]? with | some (.bool b) => some b | _ => none := by
          unfold yielded
          simp only [hj', Option.bind_some, hd]
          rfl
        have gy : ∀ b, a.tmps.getD t undef = .bool b → yielded ops a.tmps j = some b := fun b hb => by
          rw [hy]
          rw [Array.getD_eq_getD_getElem?] at hb
          cases hg2 : a.tmps[t]? with
          | none => rw [hg2] at hb; simp [undef] at hb
          | some u => rw [hg2] at hb; simp only [Option.getD_some] at hb; rw [hb]
        have gu : a.tmps.getD t undef = undef → yielded ops a.tmps j = none := fun hb => by
          rw [hy]
          rw [Array.getD_eq_getD_getElem?] at hb
          cases hg2 : a.tmps[t]? with
          | none => rfl
          | some u => rw [hg2] at hb; simp only [Option.getD_some] at hb; rw [hb]; rfl
        have one : ∀ (e : Ex), RepV C w (okk C w0 ok0 ρ s β w) .bool (e.ev C.G ρ) (a.tmps.getD t undef) → ∃ b, e.ev C.G ρ = .bool b ∧ yielded ops a.tmps j = some b := fun e he => by
          obtain ⟨b, h1, h2⟩ := RepV.bool he
          exact ⟨b, h1, gy b h2⟩
        split at hg
        · rename_i b hl
          obtain ⟨b', h1, h2⟩ := one _ (h.sl t _ hl)
          simp only [Ex.ev, D.bool.injEq] at h1
          subst h1
          split at hg
          · rename_i hb
            simp only [Option.some.injEq] at hg
            subst hg
            simp [GuardSays, h2, hb, pcOK]
          · rename_i hb
            simp only [Option.some.injEq] at hg
            subst hg
            simp [GuardSays, h2, hb]
        · rename_i e _ hl
          obtain ⟨b', h1, h2⟩ := one _ (h.sl t _ hl)
          simp only [Option.some.injEq] at hg
          subst hg
          simp [GuardSays, h2, pcOK, h1, asB_bool]
        · rename_i pc b hl
          have := h.sl t _ hl
          unfold RepSV at this
          split at this
          · rename_i hp
            obtain ⟨b', h1, h2⟩ := one _ this
            simp only [Ex.ev, D.bool.injEq] at h1
            subst h1
            split at hg
            · rename_i hb
              simp only [Option.some.injEq] at hg
              subst hg
              simp [GuardSays, h2, hb, hp]
            · rename_i hb
              simp only [Option.some.injEq] at hg
              subst hg
              simp [GuardSays, h2, hb]
          · rename_i hp
            have h2 := gu this
            split at hg
            · simp only [Option.some.injEq] at hg
              subst hg
              simp [GuardSays, h2, hp]
            · simp only [Option.some.injEq] at hg
              subst hg
              simp [GuardSays, h2]
        · rename_i pc e _ hl
          have := h.sl t _ hl
          unfold RepSV at this
          simp only [Option.some.injEq] at hg
          subst hg
          simp only [GuardSays, pcOK_snoc]
          split at this
          · rename_i hp
            obtain ⟨b', h1, h2⟩ := one _ this
            simp [GuardSays, h2, hp, h1, asB_bool]
          · rename_i hp
            have h2 := gu this
            simp [GuardSays, h2, hp]
        · simp at hg

/-- An operation that is passed over. -/
theorem SimB.skip (h : SimB C w0 ok0 ρ s β a w) (hpc : ¬ pcOK C.G ρ pc = true) {up : List (Nat × Ob)} (hup : up.all (upOK s pc) = true) : SimB C w0 ok0 ρ (s.upd pc up) β a w := by
  have key : ∀ n q o, look (putOb pc up s.ob) n = some (q, o) → pcOK C.G ρ q = true → look s.ob n = some (q, o) := by
    intro n q o hl hq
    rw [look_putOb] at hl
    cases hu : look up n with
    | none => simpa [hu] using hl
    | some o' =>
      simp only [hu, Option.some.injEq, Prod.mk.injEq] at hl
      rw [← hl.1] at hq
      exact absurd hq hpc
  have key2 : ∀ n q o, look s.ob n = some (q, o) → pcOK C.G ρ q = true → look (putOb pc up s.ob) n = some (q, o) := by
    intro n q o hl hq
    rw [look_putOb]
    cases hu : look up n with
    | none => simpa using hl
    | some o' =>
      exfalso
      have h1 := List.all_eq_true.1 hup _ (look_mem hu)
      have := upOK_old h1 hl
      exact hpc (subPC_ok this.2 hq)
  have hM : ∀ b, Mut C ρ (s.upd pc up) β b ↔ Mut C ρ s β b := fun b =>
    ⟨fun ⟨n, q, o, h1, h2, h3, h4⟩ => ⟨n, q, o, key n q o h1 h2, h2, h3, h4⟩, fun ⟨n, q, o, h1, h2, h3, h4⟩ => ⟨n, q, o, key2 n q o h1 h2, h2, h3, h4⟩⟩
  have hok : okk C w0 ok0 ρ (s.upd pc up) β w = okk C w0 ok0 ρ s β w := by
    funext b
    unfold okk
    rw [hM]
  refine ⟨h.below, h.size, h.dfr, ?_, ?_, ?_, ?_⟩
  · intro t v hv; rw [hok]; exact h.sl t v hv
  · intro n q o hn hq; rw [hok]; exact h.ob n q o (key n q o hn hq) hq
  · intro n m q q' o o' b h1 h2 h3 h4
    exact h.sep n m q q' o o' b (key _ _ _ h1 h3) (key _ _ _ h2 h4) h3 h4
  · intro n q o b h1 h2
    exact h.rng n q o b (key _ _ _ h1 h2) h2

theorem gdV_on {ok : Nat → Prop} {v : SV} {x : Value} (hpc : pcOK C.G ρ pc = true) (h : RepSV C ρ β w ok v x) : RepSV C ρ β w ok (gdV pc v) x := by
  unfold gdV
  split
  · exact h
  · unfold RepSV; rw [if_pos hpc]; exact h
theorem gdV_off {ok : Nat → Prop} {v : SV} (hpc : ¬ pcOK C.G ρ pc = true) : RepSV C ρ β w ok (gdV pc v) undef := by
  unfold gdV
  split
  · rename_i he
    have : pc = [] := by simpa using he
    subst this
    exact absurd rfl hpc
  · unfold RepSV; rw [if_neg hpc]

/-- One step in the order of the text. -/
def stepOf (s : S) (o : Oper) (pc : PC) (r : Res) : S := { s with n := s.n + preN r.pre, sl := putSl s.sl o.dst (gdV pc r.v), ob := putOb pc r.up s.ob }

theorem step_ok (H : COK C) (HG : GOK C w0 ok0) (Hok : ∀ b, ok0 b → b < w0.heap.size) {Γ : Fns} (HS : ∀ f, Sound C f (Γ f)) (h : SimB C w0 ok0 ρ s β a w) {ops : Array Oper} {o : Oper} {r : Res} {n : Nat} {ob : Obs} {ev : PC → Operand → Option SV}
    (hg : Region.wanted o (yielded ops a.tmps) = true ↔ pcOK C.G ρ pc = true) (hr : eff C ob n o ev = some r) (hob : ∀ m o, ob m = some o → obsOf s pc m = some o) (hev : ∀ more x v, ev more x = some v → opv C s pc more x = some v)
    (hd : dstOK s o.dst = true) (hup : r.up.all (upOK s pc) = true) (hnw : r.nw.all (fun m => (look s.ob m).isNone) = true) (hnd : nodupB (r.up.map (·.1)) = true) (hpass : pcOK C.G ρ pc = true → Passed C Γ ρ n r.pre)
    {K : Act → World → Prop} {Q : Exit → Act → World → Prop} (hK : ∀ β' a' w', SimB C w0 ok0 ρ (stepOf s o pc r) β' a' w' → K a' w') :
    if Region.wanted o (yielded ops a.tmps) then o.wp C.P a w K Q ∨ (o.asks C.P a w ∧ LetsOut Q) else K (a.put o.dst undef) w := by
  by_cases hpc : pcOK C.G ρ pc = true
  · rw [if_pos (hg.2 hpc)]
    left
    refine eff_ok H HG Hok HS h hpc hob hr (fun more x v hx hm => opv_ok HG Hok h hpc hm (hev more x v hx)) hup hnw hnd (hpass hpc) K Q fun β' x w' h1 h2 => hK β' _ _ ?_
    exact (SimB.put (s := s.upd pc r.up) h1 (dst := o.dst) hd (gdV_on hpc h2)).setN _
  · rw [if_neg fun hw => hpc (hg.1 hw)]
    have h1 := h.skip hpc hup
    exact hK β _ _ ((SimB.put (s := s.upd pc r.up) h1 (dst := o.dst) hd (gdV_off hpc)).setN _)

theorem stepS_some {o : Oper} {r : Res} {s1 : S} (h : stepS s o pc r = some s1) : s1 = stepOf s o pc r ∧ dstOK s o.dst = true ∧ r.up.all (upOK s pc) = true ∧ r.nw.all (fun m => (look s.ob m).isNone) = true ∧ nodupB (r.up.map (·.1)) = true ∧
    r.nw.all (fun x => (r.up.map (·.1)).contains x) = true ∧ preSc s.n r.pre = true ∧ pcSc s.n pc = true ∧ (preN r.pre = 0 ∨ s.sc = true) := by
  unfold stepS at h
  simp only at h
  split at h
  · rename_i hc
    simp only [Bool.and_eq_true, Bool.or_eq_true, decide_eq_true_eq] at hc
    obtain ⟨⟨⟨⟨⟨⟨⟨h1, h2⟩, h3⟩, h4⟩, h5⟩, h6⟩, h7⟩, h8⟩ := hc
    simp only [Option.some.injEq] at h
    exact ⟨h.symm, h1, h2, h3, h4, h5, h6, h7, h8⟩
  · simp at h

theorem SimB.grow (h : SimB C w0 ok0 ρ s β a w) (hn : ρ.length = s.n) {l : List D} {m : Nat} (hl : l.length = m) (hs : m = 0 ∨ s.sc = true) : SimB C w0 ok0 (ρ ++ l) s β a w := by
  rcases hs with h0 | hs
  · have : l = [] := List.eq_nil_of_length_eq_zero (by omega)
    subst this
    simpa using h
  · exact h.append hs hn.symm

theorem regSteps_acc {draw : Bool} {ops : List Oper} {hidOf : List Step → Nat → List Nat} : ∀ {rest : List Oper} {acc l : List Step} {s s' : S}, regSteps C draw ops hidOf rest acc s = some (l, s') → ∃ l', l = acc ++ l'
  | [], acc, l, s, s', hr => by
    simp only [regSteps, Option.some.injEq, Prod.mk.injEq] at hr
    exact ⟨[], by simp [hr.1]⟩
  | o :: rest, acc, l, s, s', hr => by
    simp only [regSteps] at hr
    split at hr
    · simp at hr
    · split at hr
      · obtain ⟨l', e⟩ := regSteps_acc hr
        exact ⟨_ :: l', by rw [e, List.append_assoc]; rfl⟩
      · simp at hr
    · split at hr
      · simp at hr
      · split at hr
        · simp at hr
        · obtain ⟨l', e⟩ := regSteps_acc hr
          exact ⟨_ :: l', by rw [e, List.append_assoc]; rfl⟩

/-- A region whose order is the text's. -/
theorem straight_ok (H : COK C) (HG : GOK C w0 ok0) (Hok : ∀ b, ok0 b → b < w0.heap.size) {Γ : Fns} (HS : ∀ f, Sound C f (Γ f)) {N : Nat} {ops : Array Oper} {k : IL} {out : Out} {Q : Exit → Act → World → Prop} {s' : S} {ρ0 : List D}
    (hQ : ∀ ρ' β' a' w', (∃ ext, ρ' = ρ0 ++ ext) → SimB C w0 ok0 ρ' s' β' a' w' → ρ'.length = s'.n → run C.G Γ N k ρ' = some out → Q .normal a' w') :
    ∀ (rest : List Oper) (acc l : List Step) (s : S) (ρ : List D) (β : Be) (a : Act) (w : World), regSteps C false ops.toList (fun _ _ => []) rest acc s = some (acc ++ l, s') → (∃ ext, ρ = ρ0 ++ ext) → SimB C w0 ok0 ρ s β a w → ρ.length = s.n →
      run C.G Γ N (wrapSteps l k) ρ = some out → wpList C.P ops Q rest a w
  | [], acc, l, s, ρ, β, a, w, hr, hpre, h, hn, hrun => by
    simp only [regSteps, Option.some.injEq, Prod.mk.injEq] at hr
    obtain ⟨h1, rfl⟩ := hr
    have : l = [] := by simpa using h1
    subst this
    exact hQ ρ β a w hpre h hn hrun
  | o :: rest, acc, l, s, ρ, β, a, w, hr, hpre, h, hn, hrun => by
    simp only [regSteps] at hr
    cases hg : guardPC ops.toList s o.guard with
    | none => simp [hg] at hr
    | some g =>
      have hG := guard_ok h hg
      cases g with
      | none =>
        simp only [hg] at hr
        split at hr
        · rename_i hd
          obtain ⟨l', e1⟩ := regSteps_acc hr
          rw [List.append_assoc, List.append_cancel_left_eq] at e1
          subst e1
          have h1 := SimB.put h (dst := o.dst) (v := .junk) (x := undef) hd trivial
          simp only [wpList]
          simp only [GuardSays] at hG
          rw [hG]
          simp only [Bool.false_eq_true, if_false]
          exact straight_ok H HG Hok HS hQ rest _ l' _ ρ β _ w (by rw [hr, List.append_assoc]) hpre h1 hn hrun
        · simp at hr
      | some pc =>
        simp only [hg, Bool.false_eq_true, if_false] at hr
        cases he : eff C (obsOf s pc) s.n o (opv C s pc) with
        | none => simp [he] at hr
        | some r =>
          simp only [he] at hr
          cases hst : stepS s o pc r with
          | none => simp [hst] at hr
          | some s1 =>
            simp only [hst] at hr
            obtain ⟨rfl, hd, hup, hnw, hnd, _, hps, hpcs, hsc⟩ := stepS_some hst
            obtain ⟨l', e1⟩ := regSteps_acc hr
            rw [List.append_assoc, List.append_cancel_left_eq] at e1
            subst e1
            simp only [List.cons_append, List.nil_append, wrapSteps, mkStep] at hrun
            rw [← hn] at hps hpcs
            obtain ⟨ext, x1, x2, x3⟩ := wrapPre_ok hps (.inr hpcs) hrun
            have h' := h.grow hn x1 hsc
            have hG' := guard_ok h' hg
            simp only [wpList]
            refine step_ok H HG Hok HS h' hG' he (fun m o hm => hm) (fun more x v hx => hx) hd hup hnw hnd (fun hpc => ?_) ?_
            · rw [pcOK_append' hpcs] at hpc
              rw [← hn]
              exact x2 hpc
            · intro β' a' w' h2
              exact straight_ok H HG Hok HS hQ rest _ l' _ _ β' a' w' (by rw [hr, List.append_assoc]) (by obtain ⟨e0, rfl⟩ := hpre; exact ⟨e0 ++ ext, by rw [List.append_assoc]⟩) h2 (by rw [List.length_append, x1, hn]; rfl) x3
end
end Sy

/- Regions whose order is open: what is known after some of the operations. -/
namespace Sy
open Go Go.RowKit

/-! ### Naming more -/
theorem Ex.sc_mono {n m : Nat} (h : n ≤ m) : ∀ {e : Ex}, e.sc n = true → e.sc m = true
  | .var i, hs => by simp only [Ex.sc, decide_eq_true_eq] at hs ⊢; omega
  | .int _, _ | .bool _, _ | .str _, _ | .lnil, _ | .nil, _ | .glob _, _ => rfl
  | .un o a, hs => by simp only [Ex.sc] at hs ⊢; exact Ex.sc_mono h hs
  | .bin o a b, hs => by simp only [Ex.sc, Bool.and_eq_true] at hs ⊢; exact ⟨Ex.sc_mono h hs.1, Ex.sc_mono h hs.2⟩
  | .tri o a b c, hs => by simp only [Ex.sc, Bool.and_eq_true] at hs ⊢; exact ⟨⟨Ex.sc_mono h hs.1.1, Ex.sc_mono h hs.1.2⟩, Ex.sc_mono h hs.2⟩
  | .fn f a b, hs => by simp only [Ex.sc, Bool.and_eq_true] at hs ⊢; exact ⟨Ex.sc_mono h hs.1, Ex.sc_mono h hs.2⟩
theorem scs_mono {n m : Nat} (h : n ≤ m) : ∀ {l : List Ex}, scs n l = true → scs m l = true
  | [], _ => rfl
  | e :: l, hs => by simp only [scs, Bool.and_eq_true] at hs ⊢; exact ⟨Ex.sc_mono h hs.1, scs_mono h hs.2⟩
theorem pcSc_mono {n m : Nat} (h : n ≤ m) : ∀ {l : PC}, pcSc n l = true → pcSc m l = true
  | [], _ => rfl
  | (e, b) :: l, hs => by simp only [pcSc, Bool.and_eq_true] at hs ⊢; exact ⟨Ex.sc_mono h hs.1, pcSc_mono h hs.2⟩

section
variable {C : Ctx} {Γ : Fns} {N : Nat}
theorem Passed.append {ρ l : List D} {n : Nat} {pre : List Pre} (h : Passed C Γ ρ n pre) (hs : preSc n pre = true) (hn : n + preN pre ≤ ρ.length) : Passed C Γ (ρ ++ l) n pre := by
  have chks : pre.all (isChk n) = true → Passed C Γ (ρ ++ l) n pre := fun hall => by
    refine ⟨fun e he => ?_, ?_, ?_⟩
    · have := List.all_eq_true.1 hall _ he
      simp only [isChk] at this
      rw [Ex.ev_append (Ex.sc_mono (by omega) this)]
      exact h.chk e he
    · rintro m f es rfl; simp [isChk] at hall
    · rintro m f es rfl; simp [isChk] at hall
  unfold preSc at hs
  split at hs
  · rename_i m f args
    refine ⟨by simp, fun m' f' es he => ?_, by simp⟩
    obtain ⟨rs, h1, h2⟩ := h.call m' f' es he
    simp only [List.cons.injEq, Pre.call.injEq, and_true] at he
    obtain ⟨rfl, rfl, rfl⟩ := he
    simp only [preN] at hn
    exact ⟨rs, by rw [evs_append (scs_mono (by omega) hs)]; exact h1, fun j d hj hm => by rw [at_append (by omega)]; exact h2 j d hj hm⟩
  · rename_i m fe args
    simp only [Bool.and_eq_true] at hs
    refine ⟨by simp, by simp, fun m' f' es he => ?_⟩
    obtain ⟨rs, h1, h2⟩ := h.callv m' f' es he
    simp only [List.cons.injEq, Pre.callv.injEq, and_true] at he
    obtain ⟨rfl, rfl, rfl⟩ := he
    simp only [preN] at hn
    exact ⟨rs, by rw [evs_append (scs_mono (by omega) hs.2), Ex.ev_append (Ex.sc_mono (by omega) hs.1)]; exact h1, fun j d hj hm => by rw [at_append (by omega)]; exact h2 j d hj hm⟩
  · exact chks hs

def Scoped : Nat → List Step → Prop
  | _, [] => True
  | n, st :: l => preSc n st.r.pre = true ∧ pcSc n st.pc = true ∧ Scoped (n + preN st.r.pre) l
def sumPre : List Step → Nat
  | [] => 0
  | st :: l => preN st.r.pre + sumPre l
/-- All that is checked and called, in the end. -/
theorem passes {k : IL} {out : Out} : ∀ {l : List Step} {ρ : List D}, Scoped ρ.length l → run C.G Γ N (wrapSteps l k) ρ = some out →
    ∃ ext, ext.length = sumPre l ∧ run C.G Γ N k (ρ ++ ext) = some out ∧ ∀ j st, l[j]? = some st → pcOK C.G (ρ ++ ext) st.pc = true → Passed C Γ (ρ ++ ext) (ρ.length + sumPre (l.take j)) st.r.pre
  | [], ρ, _, h => ⟨[], rfl, by simpa [wrapSteps] using h, by simp⟩
  | st :: l, ρ, ⟨h1, h2, h3⟩, h => by
    simp only [wrapSteps] at h
    obtain ⟨e1, x1, x2, x3⟩ := wrapPre_ok h1 (.inr h2) h
    have hl : (ρ ++ e1).length = ρ.length + preN st.r.pre := by rw [List.length_append, x1]
    obtain ⟨e2, y1, y2, y3⟩ := passes (l := l) (ρ := ρ ++ e1) (by rw [hl]; exact h3) x3
    refine ⟨e1 ++ e2, by rw [List.length_append, x1, y1]; rfl, by rw [← List.append_assoc]; exact y2, ?_⟩
    intro j st' hj hpc
    cases j with
    | zero =>
      simp only [List.getElem?_cons_zero, Option.some.injEq] at hj
      subst hj
      rw [pcOK_append' h2] at hpc
      rw [← List.append_assoc]
      simp only [List.take_zero, sumPre, Nat.add_zero]
      exact (x2 hpc).append h1 (by rw [hl]; exact Nat.le_refl _)
    | succ j =>
      rw [← List.append_assoc] at hpc ⊢
      have := y3 j st' (by simpa using hj) hpc
      rw [hl] at this
      simp only [List.take_succ_cons, sumPre]
      rw [← Nat.add_assoc]
      exact this
end

/-! ### After some of the operations -/
def SX (X : Nat → Bool) : List Step → Nat → S → S
  | [], _, s => s
  | st :: l, i, s => SX X l (i + 1) (if X i then stepOf s st.o st.pc st.r else s)
theorem SX_append {X : Nat → Bool} : ∀ {l1 l2 : List Step} {i : Nat} {s : S}, SX X (l1 ++ l2) i s = SX X l2 (i + l1.length) (SX X l1 i s)
  | [], l2, i, s => rfl
  | st :: l1, l2, i, s => by
    simp only [List.cons_append, SX, List.length_cons]
    rw [SX_append]
    congr 1
    omega
theorem SX_congr {X Y : Nat → Bool} : ∀ {l : List Step} {i : Nat} {s : S}, (∀ k, k < l.length → X (i + k) = Y (i + k)) → SX X l i s = SX Y l i s
  | [], _, _, _ => rfl
  | st :: l, i, s, h => by
    simp only [SX]
    have h0 := h 0 (by simp)
    rw [Nat.add_zero] at h0
    rw [h0]
    exact SX_congr fun k hk => by have := h (k + 1) (by simp; omega); rw [show i + 1 + k = i + (k + 1) by omega]; exact this
theorem SX_none {X : Nat → Bool} : ∀ {l : List Step} {i : Nat} {s : S}, (∀ k, k < l.length → X (i + k) = false) → SX X l i s = s
  | [], _, _, _ => rfl
  | st :: l, i, s, h => by
    simp only [SX]
    have h0 := h 0 (by simp)
    rw [Nat.add_zero] at h0
    rw [h0]
    exact SX_none fun k hk => by have := h (k + 1) (by simp; omega); rw [show i + 1 + k = i + (k + 1) by omega]; exact this
/-- All the operations ahead of place j. -/
theorem SX_take {l : List Step} {j : Nat} {s : S} : SX (fun k => decide (k < j)) l 0 s = SX (fun _ => true) (l.take j) 0 s := by
  conv => lhs; rw [← List.take_append_drop j l]
  rw [SX_append]
  rw [SX_none (l := l.drop j)]
  · exact SX_congr fun k hk => by simp only [List.length_take] at hk; simp; omega
  · intro k hk
    simp only [List.length_drop] at hk
    simp only [List.length_take, decide_eq_false_iff_not]
    omega
theorem look_putSl {l : List (Nat × SV)} {dst : Option Nat} {v : SV} {t : Nat} : look (putSl l dst v) t = if dst = some t then some v else look l t := by
  cases dst with
  | none => simp [putSl]
  | some d =>
    simp only [putSl, look, Option.some.injEq]

theorem SX_sl {X Y : Nat → Bool} {t : Nat} : ∀ {l : List Step} {i : Nat} {s s' : S}, look s.sl t = look s'.sl t → (∀ k st, l[k]? = some st → X (i + k) ≠ Y (i + k) → st.o.dst ≠ some t) → look (SX X l i s).sl t = look (SX Y l i s').sl t
  | [], _, _, _, h, _ => h
  | st :: l, i, s, s', h, hk => by
    simp only [SX]
    refine SX_sl ?_ fun k st' hst hne => hk (k + 1) st' (by simpa using hst) (by rw [show i + (k + 1) = i + 1 + k by omega]; exact hne)
    have h0 := hk 0 st rfl
    rw [Nat.add_zero] at h0
    cases hX : X i <;> cases hY : Y i <;> simp only [hX, hY, if_true, Bool.false_eq_true, if_false, stepOf, look_putSl]
    · exact h
    · rw [if_neg (h0 (by rw [hX, hY]; simp))]; exact h
    · rw [if_neg (h0 (by rw [hX, hY]; simp))]; exact h
    · rw [h]
theorem SX_ob {X Y : Nat → Bool} {m : Nat} : ∀ {l : List Step} {i : Nat} {s s' : S}, look s.ob m = look s'.ob m → (∀ k st, l[k]? = some st → X (i + k) ≠ Y (i + k) → look st.r.up m = none) → look (SX X l i s).ob m = look (SX Y l i s').ob m
  | [], _, _, _, h, _ => h
  | st :: l, i, s, s', h, hk => by
    simp only [SX]
    refine SX_ob ?_ fun k st' hst hne => hk (k + 1) st' (by simpa using hst) (by rw [show i + (k + 1) = i + 1 + k by omega]; exact hne)
    have h0 := hk 0 st rfl
    rw [Nat.add_zero] at h0
    cases hX : X i <;> cases hY : Y i <;> simp only [hX, hY, if_true, Bool.false_eq_true, if_false, stepOf, look_putOb]
    · exact h
    · rw [h0 (by rw [hX, hY]; simp)]; exact h
    · rw [h0 (by rw [hX, hY]; simp)]; exact h
    · rw [h]
theorem SX_nt {X : Nat → Bool} : ∀ {l : List Step} {i : Nat} {s : S}, (SX X l i s).nt = s.nt
  | [], _, _ => rfl
  | st :: l, i, s => by
    simp only [SX]
    rw [SX_nt]
    split <;> rfl
theorem SX_n : ∀ {l : List Step} {i : Nat} {s : S}, (SX (fun _ => true) l i s).n = s.n + sumPre l
  | [], _, _ => rfl
  | st :: l, i, s => by
    simp only [SX, if_true]
    rw [SX_n]
    simp only [stepOf, sumPre]
    omega

/-! ### What is named nowhere -/
theorem gdV_free {m : Nat} {pc : PC} {v : SV} : (gdV pc v).free m = v.free m := by unfold gdV; split <;> simp [SV.free]
theorem gdV_freeV {m ver : Nat} {pc : PC} {v : SV} : (gdV pc v).freeV m ver = v.freeV m ver := by unfold gdV; split <;> simp [SV.freeV]
theorem slFree_putSl {m : Nat} {l : List (Nat × SV)} {dst : Option Nat} {v : SV} : slFree m (putSl l dst v) = true ↔ (∀ d, dst = some d → v.free m = true) ∧ slFree m l = true := by
  cases dst <;> simp [putSl, slFree]
theorem slFreeV_putSl {m ver : Nat} {l : List (Nat × SV)} {dst : Option Nat} {v : SV} : slFreeV m ver (putSl l dst v) = true ↔ (∀ d, dst = some d → v.freeV m ver = true) ∧ slFreeV m ver l = true := by
  cases dst <;> simp [putSl, slFreeV]
theorem obFree_putOb {m : Nat} {pc : PC} : ∀ {up : List (Nat × Ob)} {l : List (Nat × PC × Ob)}, obFree m (putOb pc up l) = true ↔ upFrees m up = true ∧ obFree m l = true
  | [], l => by simp [putOb, upFrees]
  | (i, o) :: up, l => by
    have ih := obFree_putOb (m := m) (pc := pc) (up := up) (l := l)
    show (decide (i ≠ m) && o.free m && obFree m (putOb pc up l)) = true ↔ (decide (i ≠ m) && o.free m && upFrees m up) = true ∧ _
    simp only [Bool.and_eq_true, ih]
    constructor
    · rintro ⟨⟨a, b⟩, c, d⟩; exact ⟨⟨⟨a, b⟩, c⟩, d⟩
    · rintro ⟨⟨⟨a, b⟩, c⟩, d⟩; exact ⟨⟨a, b⟩, c, d⟩
theorem obFreeV_putOb {m ver : Nat} {pc : PC} : ∀ {up : List (Nat × Ob)} {l : List (Nat × PC × Ob)}, obFreeV m ver (putOb pc up l) = true ↔ upFreeVs m ver up = true ∧ obFreeV m ver l = true
  | [], l => by simp [putOb, upFreeVs]
  | (i, o) :: up, l => by
    have ih := obFreeV_putOb (m := m) (ver := ver) (pc := pc) (up := up) (l := l)
    show (o.freeV m ver && obFreeV m ver (putOb pc up l)) = true ↔ (o.freeV m ver && upFreeVs m ver up) = true ∧ _
    simp only [Bool.and_eq_true, ih]
    constructor
    · rintro ⟨b, c, d⟩; exact ⟨⟨b, c⟩, d⟩
    · rintro ⟨⟨b, c⟩, d⟩; exact ⟨b, c, d⟩
/-- A property of lists that holds step by step. -/
theorem SX_all {X : Nat → Bool} (F : S → Prop) (Fs : Step → Prop) (hF : ∀ s st, F (stepOf s st.o st.pc st.r) ↔ Fs st ∧ F s) : ∀ {l : List Step} {i : Nat} {s : S}, F (SX X l i s) ↔ (∀ k st, l[k]? = some st → X (i + k) = true → Fs st) ∧ F s
  | [], _, _ => by simp [SX]
  | st :: l, i, s => by
    simp only [SX]
    rw [SX_all F Fs hF (l := l)]
    have hst : F (if X i = true then stepOf s st.o st.pc st.r else s) ↔ (X i = true → Fs st) ∧ F s := by
      split
      · rename_i h; simp [hF, h]
      · rename_i h; simp [h]
    rw [hst]
    constructor
    · rintro ⟨h1, h2, h3⟩
      refine ⟨fun k st' hk hX => ?_, h3⟩
      cases k with
      | zero => simp only [List.getElem?_cons_zero, Option.some.injEq] at hk; subst hk; exact h2 (by simpa using hX)
      | succ k => exact h1 k st' (by simpa using hk) (by rw [show i + 1 + k = i + (k + 1) by omega]; exact hX)
    · rintro ⟨h1, h2⟩
      exact ⟨fun k st' hk hX => h1 (k + 1) st' (by simpa using hk) (by rw [show i + (k + 1) = i + 1 + k by omega]; exact hX), fun hX => h1 0 st rfl (by simpa using hX), h2⟩
end Sy

/- Regions whose order is open: each order does what the text's order does. -/
namespace Sy
open Go Go.RowKit

section
variable {C : Ctx}

/-- What is told of one step, where the order is open. -/
structure Told (C : Ctx) (ops : List Oper) (hidOf : List Step → Nat → List Nat) (l : List Step) (s0 : S) (j : Nat) (st : Step) : Prop where
  op : ops[j]? = some st.o
  dst : dstOK (SX (fun _ => true) (l.take j) 0 s0) st.o.dst = true
  sc : preSc (SX (fun _ => true) (l.take j) 0 s0).n st.r.pre = true ∧ pcSc (SX (fun _ => true) (l.take j) 0 s0).n st.pc = true
  how : (guardPC ops (SX (fun _ => true) (l.take j) 0 s0) st.o.guard = some none ∧ st.r = ⟨[], .junk, [], []⟩ ∧ st.pc = []) ∨
    (guardPC ops (SX (fun _ => true) (l.take j) 0 s0) st.o.guard = some (some st.pc) ∧
      (∃ ob, eff C ob (SX (fun _ => true) (l.take j) 0 s0).n st.o (onlyOf (readsOf ops st.o) (opv C (SX (fun _ => true) (l.take j) 0 s0) st.pc)) = some st.r ∧
        (ob = noObs ∨ (ob = hide (hidOf (l.take j) j) (obsOf (SX (fun _ => true) (l.take j) 0 s0) st.pc) ∧ st.vis = ((SX (fun _ => true) (l.take j) 0 s0).ob.map (·.1)).filter fun m => !(hidOf (l.take j) j).contains m))) ∧
      st.r.up.all (upOK (SX (fun _ => true) (l.take j) 0 s0) st.pc) = true ∧ st.r.nw.all (fun m => (look (SX (fun _ => true) (l.take j) 0 s0).ob m).isNone) = true ∧ nodupB (st.r.up.map (·.1)) = true ∧ st.r.nw.all (fun x => (st.r.up.map (·.1)).contains x) = true ∧
      st.news = (st.r.up.filter fun x => (look (SX (fun _ => true) (l.take j) 0 s0).ob x.1).isNone).map (·.1) ∧
      st.bumps = st.r.up.filterMap fun x => match look (SX (fun _ => true) (l.take j) 0 s0).ob x.1, x.2 with
        | some (_, .arr _ _ v), .arr _ _ v' => if v = v' then none else some (x.1, v')
        | some (_, .narr _ _ _ _ v _), .narr _ _ _ _ v' _ => if v = v' then none else some (x.1, v')
        | _, _ => none)

theorem regSteps_told {ops : List Oper} {hidOf : List Step → Nat → List Nat} {s0 : S} : ∀ {rest : List Oper} {acc l : List Step} {s s' : S}, regSteps C true ops hidOf rest acc s = some (acc ++ l, s') → s = SX (fun _ => true) acc 0 s0 → ops.drop acc.length = rest →
    (∀ j st, acc.length ≤ j → (acc ++ l)[j]? = some st → Told C ops hidOf (acc ++ l) s0 j st) ∧ s' = SX (fun _ => true) (acc ++ l) 0 s0 ∧ l.length = rest.length
  | [], acc, l, s, s', hr, hs, hd => by
    simp only [regSteps, Option.some.injEq, Prod.mk.injEq] at hr
    obtain ⟨h1, rfl⟩ := hr
    have : l = [] := by simpa using h1
    subst this
    refine ⟨fun j st hj hl => ?_, by simpa using hs, rfl⟩
    rw [List.append_nil] at hl
    have := (List.getElem?_eq_some_iff.1 hl).1
    omega
  | o :: rest, acc, l, s, s', hr, hs, hd => by
    have hop : ops[acc.length]? = some o := by
      have : (ops.drop acc.length)[0]? = some o := by rw [hd]; rfl
      simpa using this
    have hd' : ∀ st : Step, ops.drop (acc ++ [st]).length = rest := fun st => by
      have : (ops.drop acc.length).drop 1 = rest := by rw [hd]; rfl
      rw [List.drop_drop] at this
      simpa using this
    have hrest := hr
    simp only [regSteps] at hr
    -- one step, and the rest
    have main : ∀ (st : Step) (l' : List Step) (s1 : S), l = st :: l' → regSteps C true ops hidOf rest (acc ++ [st]) s1 = some ((acc ++ [st]) ++ l', s') → s1 = stepOf s st.o st.pc st.r → Told C ops hidOf (acc ++ l) s0 acc.length st →
        (∀ j st, acc.length ≤ j → (acc ++ l)[j]? = some st → Told C ops hidOf (acc ++ l) s0 j st) ∧ s' = SX (fun _ => true) (acc ++ l) 0 s0 ∧ l.length = (o :: rest).length := by
      intro st l' s1 hl hr' hs1 hT
      have hsx : s1 = SX (fun _ => true) (acc ++ [st]) 0 s0 := by rw [SX_append, ← hs, hs1]; rfl
      obtain ⟨g1, g2, g3⟩ := regSteps_told (s0 := s0) hr' hsx (hd' st)
      have e : (acc ++ [st]) ++ l' = acc ++ l := by rw [hl, List.append_assoc]; rfl
      rw [e] at g1 g2
      refine ⟨fun j st' hj hj' => ?_, g2, by rw [hl]; simp [g3]⟩
      rcases Nat.lt_or_eq_of_le hj with hlt | rfl
      · exact g1 j st' (by rw [List.length_append]; exact hlt) hj'
      · rw [hl] at hj'
        simp only [List.getElem?_append_right (Nat.le_refl _), Nat.sub_self, List.getElem?_cons_zero, Option.some.injEq] at hj'
        subst hj'
        exact hT
    have htk : ∀ l : List Step, (acc ++ l).take acc.length = acc := fun l => List.take_left
    cases hg : guardPC ops s o.guard with
    | none => simp [hg] at hr
    | some g =>
      cases g with
      | none =>
        simp only [hg] at hr
        split at hr
        · rename_i hd1
          obtain ⟨l', e1⟩ := regSteps_acc hr
          rw [List.append_assoc, List.append_cancel_left_eq] at e1
          refine main _ l' _ e1 (hr.trans (by rw [e1, List.append_assoc])) rfl ⟨hop, ?_, ?_, .inl ⟨?_, rfl, rfl⟩⟩
          · rw [htk, ← hs]; exact hd1
          · exact ⟨rfl, rfl⟩
          · rw [htk, ← hs]; exact hg
        · simp at hr
      | some pc =>
        simp only [hg, if_true] at hr
        have fin : ∀ (r : Res) (p : Bool) (ob : Obs), eff C ob s.n o (onlyOf (readsOf ops o) (opv C s pc)) = some r → (p = true ∧ ob = noObs ∨ p = false ∧ ob = hide (hidOf acc acc.length) (obsOf s pc)) →
            (match stepS s o pc r with
              | none => none
              | some s1 => regSteps C true ops hidOf rest (acc ++ [mkStep s o pc r (if p then [] else (s.ob.map (·.1)).filter fun m => !(hidOf acc acc.length).contains m)]) s1) = some (acc ++ l, s') →
            (∀ j st, acc.length ≤ j → (acc ++ l)[j]? = some st → Told C ops hidOf (acc ++ l) s0 j st) ∧ s' = SX (fun _ => true) (acc ++ l) 0 s0 ∧ l.length = (o :: rest).length := by
          intro r p ob he hp hr
          cases hst : stepS s o pc r with
          | none => simp [hst] at hr
          | some s1 =>
            simp only [hst] at hr
            obtain ⟨rfl, hd1, hup, hnw, hnd, hnu, hps, hpcs, _⟩ := stepS_some hst
            obtain ⟨l', e1⟩ := regSteps_acc hr
            rw [List.append_assoc, List.append_cancel_left_eq] at e1
            refine main _ l' _ e1 (hr.trans (by rw [e1, List.append_assoc])) rfl ⟨hop, ?_, ?_, .inr ⟨?_, ⟨ob, ?_, ?_⟩, ?_, ?_, hnd, hnu, ?_, ?_⟩⟩
            all_goals (rw [htk, ← hs])
            · exact hd1
            · exact ⟨hps, hpcs⟩
            · exact hg
            · exact he
            · rcases hp with ⟨rfl, h2⟩ | ⟨rfl, h2⟩
              · exact .inl h2
              · exact .inr ⟨h2, by simp [mkStep]⟩
            · exact hup
            · exact hnw
            · rfl
            · rfl
        cases he : eff C noObs s.n o (onlyOf (readsOf ops o) (opv C s pc)) with
        | some r =>
          simp only [he] at hr
          exact fin r true noObs he (.inl ⟨rfl, rfl⟩) hr
        | none =>
          simp only [he] at hr
          cases he2 : eff C (hide (hidOf acc acc.length) (obsOf s pc)) s.n o (onlyOf (readsOf ops o) (opv C s pc)) with
          | none => simp [he2] at hr
          | some r =>
            simp only [he2] at hr
            exact fin r false _ he2 (.inr ⟨rfl, rfl⟩) hr
end

/-- Two steps that may come in either order. -/
structure Indep (ops : List Oper) (x y : Step) : Prop where
  dst : ∀ d, x.o.dst = some d → y.o.dst ≠ some d
  rd : ∀ d, x.o.dst = some d → d ∉ readsOf ops y.o
  up : ∀ u ∈ x.r.up, look y.r.up u.1 = none
  up' : ∀ u ∈ y.r.up, look x.r.up u.1 = none
  vis : ∀ m ∈ y.vis, look x.r.up m = none
  st : strange y x = true
theorem nlook {l : List (Nat × Ob)} {m : Nat} (h : (namesUp l).contains m = false) : look l m = none := not_mem_look (by simpa [namesUp] using h)
theorem Indep.of {ops : List Oper} {x y : Step} (h : freeTwo ops x y = true) : Indep ops x y ∧ Indep ops y x := by
  unfold freeTwo apartB at h
  simp only [Bool.and_eq_true, List.all_eq_true, Bool.not_eq_true'] at h
  obtain ⟨⟨⟨⟨⟨h1, h2⟩, h3⟩, h4⟩, h5⟩, h6⟩ := h
  have d1 : ∀ d, x.o.dst = some d → d ∉ readsOf ops y.o ∧ y.o.dst ≠ some d := fun d hd => by
    rw [hd] at h1
    simpa using h1
  have d2 : ∀ d, y.o.dst = some d → d ∉ readsOf ops x.o := fun d hd => by
    rw [hd] at h2
    simpa using h2
  have u1 : ∀ u ∈ x.r.up, look y.r.up u.1 = none := fun u hu => nlook (h3 u hu).1
  have u2 : ∀ u ∈ y.r.up, look x.r.up u.1 = none := fun u hu => by
    refine not_mem_look fun hm => ?_
    obtain ⟨v, hv, e⟩ := List.mem_map.1 hm
    have h := u1 v hv
    rw [e] at h
    have := (h3 v hv).1
    rw [e] at this
    simp [namesUp] at this
    exact this u.2 hu
  have v1 : ∀ m ∈ y.vis, look x.r.up m = none := fun m hm => not_mem_look fun hm' => by
    obtain ⟨v, hv, e⟩ := List.mem_map.1 hm'
    have := (h3 v hv).2
    rw [e] at this
    simp at this
    exact this hm
  have v2 : ∀ m ∈ x.vis, look y.r.up m = none := fun m hm => not_mem_look fun hm' => by
    obtain ⟨v, hv, e⟩ := List.mem_map.1 hm'
    have := h4 v hv
    rw [e] at this
    simp at this
    exact this hm
  exact ⟨⟨fun d hd => (d1 d hd).2, fun d hd => (d1 d hd).1, u1, u2, v1, h6⟩, ⟨fun d hd he => (d1 d he).2 hd, d2, u2, u1, v2, h5⟩⟩
theorem drawOK_free {ops : List Oper} {ms : List Nat} {all : List Step} : ∀ {l : List Step} {j0 : Nat}, drawOK ops ms all l j0 = true → ∀ {j : Nat} {y : Step}, l[j]? = some y → ∀ {i : Nat} {x : Step}, all[i]? = some x → i < j0 + j → (ms.getD (j0 + j) 0).testBit i = false → freeTwo ops x y = true
  | [], _, _, _, _, hj, _, _, _, _, _ => by simp at hj
  | z :: l, j0, h, j, y, hj, i, x, hi, hlt, hb => by
    simp only [drawOK, Bool.and_eq_true] at h
    cases j with
    | zero =>
      simp only [List.getElem?_cons_zero, Option.some.injEq] at hj
      subst hj
      have key : ∀ {all : List Step} {i0 : Nat}, freeAll ops ms z j0 all i0 = true → ∀ {i : Nat} {x : Step}, all[i]? = some x → i0 + i < j0 → (ms.getD j0 0).testBit (i0 + i) = false → freeTwo ops x z = true := by
        intro all
        induction all with
        | nil => intro i0 _ i x hi; simp at hi
        | cons u all ih =>
          intro i0 hf i x hi hlt hb
          simp only [freeAll, Bool.and_eq_true, Bool.or_eq_true, decide_eq_true_eq] at hf
          cases i with
          | zero =>
            simp only [List.getElem?_cons_zero, Option.some.injEq] at hi
            subst hi
            rcases hf.1 with (h1 | h1) | h1
            · omega
            · simp only [Nat.add_zero] at hb; rw [h1] at hb; simp at hb
            · exact h1
          | succ i => exact ih (i0 := i0 + 1) hf.2 (by simpa using hi) (by omega) (by rw [show i0 + 1 + i = i0 + (i + 1) by omega]; exact hb)
      exact key h.1 hi (by simpa using hlt) (by simpa using hb)
    | succ j => exact drawOK_free h.2 (by simpa using hj) hi (by omega) (by rw [show j0 + 1 + j = j0 + (j + 1) by omega]; exact hb)
end Sy

/- Regions whose order is open: the proof. -/
namespace Sy
open Go Go.RowKit

/-! ### What comes ahead in every order -/
theorem fold_bit {acc : List Nat} {n k : Nat} : ∀ (l : List Go.Edge) (s : Nat), (l.foldl (fun s e => if Region.binds .any e && decide (e.on < n) then s ||| 2 ^ e.on ||| acc.getD e.on 0 else s) s).testBit k = true →
    s.testBit k = true ∨ ∃ e ∈ l, Region.binds .any e = true ∧ e.on < n ∧ (k = e.on ∨ (acc.getD e.on 0).testBit k = true)
  | [], s, h => .inl h
  | e :: l, s, h => by
    simp only [List.foldl_cons] at h
    rcases fold_bit l _ h with h1 | ⟨e', h1, h2⟩
    · split at h1
      · rename_i hc
        simp only [Bool.and_eq_true, decide_eq_true_eq] at hc
        simp only [Nat.testBit_or, Nat.testBit_two_pow, Bool.or_eq_true, decide_eq_true_eq] at h1
        rcases h1 with (h1 | h1) | h1
        · exact .inl h1
        · exact .inr ⟨e, List.mem_cons_self .., hc.1, hc.2, .inl h1.symm⟩
        · exact .inr ⟨e, List.mem_cons_self .., hc.1, hc.2, .inr h1⟩
      · exact .inl h1
    · exact .inr ⟨e', List.mem_cons_of_mem _ h1, h2⟩
theorem masks_at : ∀ {l : List Oper} {acc : List Nat}, (∀ i, i < acc.length → (masks l acc)[i]? = acc[i]?) ∧ ∀ {j o}, l[j]? = some o → ∀ {k}, ((masks l acc).getD (acc.length + j) 0).testBit k = true → ∃ e ∈ o.after.toList, Region.binds .any e = true ∧ e.on < acc.length + j ∧ (k = e.on ∨ ((masks l acc).getD e.on 0).testBit k = true)
  | [], acc => ⟨fun i hi => rfl, fun hj => by simp at hj⟩
  | o :: l, acc => by
    simp only [masks]
    generalize hm : (o.after.toList.foldl (fun s e => if Region.binds .any e && decide (e.on < acc.length) then s ||| 2 ^ e.on ||| acc.getD e.on 0 else s) 0) = m
    obtain ⟨h1, h2⟩ := masks_at (l := l) (acc := acc ++ [m])
    have hold : ∀ i, i < acc.length → (masks l (acc ++ [m]))[i]? = acc[i]? := fun i hi => by
      rw [h1 i (by simp; omega), List.getElem?_append_left hi]
    refine ⟨hold, ?_⟩
    intro j o' hj k hk
    cases j with
    | zero =>
      simp only [List.getElem?_cons_zero, Option.some.injEq] at hj
      subst hj
      have hml : (masks l (acc ++ [m])).getD (acc.length + 0) 0 = m := by
        rw [List.getD_eq_getElem?_getD, Nat.add_zero, h1 acc.length (by simp)]
        simp
      rw [hml, ← hm] at hk
      rcases fold_bit _ _ hk with h3 | ⟨e, h3, h4, h5, h6⟩
      · simp at h3
      · refine ⟨e, h3, h4, by simpa using h5, h6.imp id fun h => ?_⟩
        rw [List.getD_eq_getElem?_getD, hold e.on h5, ← List.getD_eq_getElem?_getD]
        exact h
    | succ j =>
      obtain ⟨e, h3, h4, h5, h6⟩ := h2 (j := j) (o := o') (by simpa using hj) (k := k) (by rw [show (acc ++ [m]).length + j = acc.length + (j + 1) by simp; omega]; exact hk)
      exact ⟨e, h3, h4, by simp at h5; omega, h6⟩

section
variable {C : Ctx} {w0 : World} {ok0 : Nat → Prop} {ρ : List D} {s s' : S} {β : Be} {a : Act} {w : World} {pc : PC}
/-- What is known is what is looked up. -/
theorem SimB.congr (h : SimB C w0 ok0 ρ s β a w) (h1 : ∀ t, look s'.sl t = look s.sl t) (h2 : ∀ m, look s'.ob m = look s.ob m) (h3 : s'.nt = s.nt) : SimB C w0 ok0 ρ s' β a w := by
  have hM : Mut C ρ s' β = Mut C ρ s β := by
    funext b
    unfold Mut
    simp only [h2]
  have hk : okk C w0 ok0 ρ s' β w = okk C w0 ok0 ρ s β w := by
    funext b
    unfold okk
    rw [hM]
  refine ⟨h.below, by rw [h3]; exact h.size, h.dfr, ?_, ?_, ?_, ?_⟩
  · intro t v hv; rw [hk]; exact h.sl t v (by rw [← h1]; exact hv)
  · intro n q o hn; rw [hk]; exact h.ob n q o (by rw [← h2]; exact hn)
  · intro n m q q' o o' b a1 a2; exact h.sep n m q q' o o' b (by rw [← h2]; exact a1) (by rw [← h2]; exact a2)
  · intro n q o b a1; exact h.rng n q o b (by rw [← h2]; exact a1)

theorem SX_hit_sl {X : Nat → Bool} {l : List Step} {j : Nat} {st : Step} {t : Nat} (hj : l[j]? = some st) (hX : X j = true) (hd : st.o.dst = some t) (hlast : ∀ k st', l[k]? = some st' → j < k → X k = true → st'.o.dst ≠ some t) : look (SX X l 0 s).sl t = some (gdV st.pc st.r.v) := by
  have hlt := (List.getElem?_eq_some_iff.1 hj).1
  have hl : l = l.take j ++ st :: l.drop (j + 1) := by
    rw [← (List.getElem?_eq_some_iff.1 hj).2, ← List.drop_eq_getElem_cons hlt, List.take_append_drop]
  rw [hl, SX_append]
  have e : (0 + (l.take j).length) = j := by simp; omega
  rw [e]
  simp only [SX, hX, if_true]
  rw [SX_sl (Y := fun _ => false) (s' := stepOf (SX X (l.take j) 0 s) st.o st.pc st.r) rfl, SX_none fun _ _ => rfl]
  · simp [stepOf, look_putSl, hd]
  · intro k st' hk hne
    refine hlast (j + 1 + k) st' (by simpa using hk) (by omega) ?_
    cases h : X (j + 1 + k)
    · simp [h] at hne
    · rfl
theorem SX_hit_ob {X : Nat → Bool} {l : List Step} {j : Nat} {st : Step} {m : Nat} {o : Ob} (hj : l[j]? = some st) (hX : X j = true) (hd : look st.r.up m = some o) (hlast : ∀ k st', l[k]? = some st' → j < k → X k = true → look st'.r.up m = none) : look (SX X l 0 s).ob m = some (st.pc, o) := by
  have hlt := (List.getElem?_eq_some_iff.1 hj).1
  have hl : l = l.take j ++ st :: l.drop (j + 1) := by
    rw [← (List.getElem?_eq_some_iff.1 hj).2, ← List.drop_eq_getElem_cons hlt, List.take_append_drop]
  rw [hl, SX_append]
  have e : (0 + (l.take j).length) = j := by simp; omega
  rw [e]
  simp only [SX, hX, if_true]
  rw [SX_ob (Y := fun _ => false) (s' := stepOf (SX X (l.take j) 0 s) st.o st.pc st.r) rfl, SX_none fun _ _ => rfl]
  · simp [stepOf, look_putOb, hd]
  · intro k st' hk hne
    refine hlast (j + 1 + k) st' (by simpa using hk) (by omega) ?_
    cases h : X (j + 1 + k)
    · simp [h] at hne
    · rfl

theorem strange_new {x y : Step} (h : strange x y = true) {m : Nat} (hm : m ∈ x.news) : y.r.v.free m = true ∧ upFrees m y.r.up = true := by
  unfold strange at h
  simp only [Bool.and_eq_true, List.all_eq_true] at h
  exact h.1 m hm
theorem strange_bump {x y : Step} (h : strange x y = true) {m ver : Nat} (hm : (m, ver) ∈ x.bumps) : y.r.v.freeV m ver = true ∧ upFreeVs m ver y.r.up = true := by
  unfold strange at h
  simp only [Bool.and_eq_true, List.all_eq_true] at h
  exact h.2 _ hm

/-- One step, some of the others having been made. -/
theorem draw_step (H : COK C) (HG : GOK C w0 ok0) (Hok : ∀ b, ok0 b → b < w0.heap.size) {Γ : Fns} (HS : ∀ f, Sound C f (Γ f)) {ops : Array Oper} {l : List Step} {ms : List Nat} {s0 : S} (hms : ms = masks ops.toList []) (hdr : drawOK ops.toList ms l l 0 = true)
    (hT : ∀ j st, l[j]? = some st → Told C ops.toList (hidden ms) l s0 j st) (hP : ∀ j st, l[j]? = some st → pcOK C.G ρ st.pc = true → Passed C Γ ρ (SX (fun _ => true) (l.take j) 0 s0).n st.r.pre)
    {X : Nat → Bool} (hcl : ∀ i k, X i = true → (ms.getD i 0).testBit k = true → X k = true) {j : Nat} {st : Step} (hj : l[j]? = some st) (hXj : X j = false) (hready : ∀ e ∈ st.o.after.toList, Region.binds .any e = true → X e.on = true)
    (h : SimB C w0 ok0 ρ (SX X l 0 s0) β a w) {K : Act → World → Prop} {Q : Exit → Act → World → Prop} (hK : ∀ β' a' w', SimB C w0 ok0 ρ (SX (fun k => X k || decide (k = j)) l 0 s0) β' a' w' → K a' w') : wpOp C.P ops Q j K a w := by
  obtain ⟨Top, Tdst, _, Thow⟩ := hT j st hj
  have hPj := hP j st hj
  have hop : ops[j]? = some st.o := by simpa using Top
  -- who may come in either order
  have hpred : ∀ k, (ms.getD j 0).testBit k = true → X k = true := by
    intro k hk
    obtain ⟨e, h1, h2, h3, h4⟩ := (masks_at (l := ops.toList) (acc := [])).2 (j := j) Top (k := k) (by simpa [← hms] using hk)
    have hX := hready e h1 h2
    rcases h4 with rfl | h4
    · exact hX
    · exact hcl e.on k hX (by rw [hms]; exact h4)
  have I : ∀ k st', l[k]? = some st' → decide (k < j) ≠ X k → Indep ops.toList st' st := by
    intro k st' hk hne
    by_cases hlt : k < j
    · have hXk : X k = false := by simpa [hlt] using hne
      have := drawOK_free hdr hj hk (by simpa using hlt) (by
        cases hb : (ms.getD (0 + j) 0).testBit k
        · rfl
        · rw [Nat.zero_add] at hb; rw [hpred k hb] at hXk; simp at hXk)
      exact (Indep.of this).1
    · have hXk : X k = true := by simpa [hlt] using hne
      have hkj : k ≠ j := fun e => by rw [e, hXj] at hXk; simp at hXk
      have := drawOK_free hdr hk hj (by omega) (by
        cases hb : (ms.getD (0 + k) 0).testBit j
        · rfl
        · rw [Nat.zero_add] at hb; rw [hcl k j hXk hb] at hXj; simp at hXj)
      exact (Indep.of this).2
  obtain ⟨sj, hsj⟩ : ∃ sj, sj = SX (fun _ => true) (l.take j) 0 s0 := ⟨_, rfl⟩
  rw [← hsj] at Tdst Thow hPj
  have hsj' : sj = SX (fun k => decide (k < j)) l 0 s0 := by rw [hsj, SX_take]
  generalize hsx : SX X l 0 s0 = sx at h
  -- what is looked up is the same
  have Lsl : ∀ t, t ∈ readsOf ops.toList st.o → look sx.sl t = look sj.sl t := by
    intro t ht
    rw [← hsx, hsj']
    refine SX_sl rfl fun k st' hk hne hd => ?_
    rw [Nat.zero_add] at hne
    exact (I k st' hk (Ne.symm hne)).rd t hd ht
  have Lob : ∀ m, (∀ st', Indep ops.toList st' st → look st'.r.up m = none) → look sx.ob m = look sj.ob m := by
    intro m hm
    rw [← hsx, hsj']
    refine SX_ob rfl fun k st' hk hne => ?_
    rw [Nat.zero_add] at hne
    exact hm st' (I k st' hk (Ne.symm hne))
  have Lup : ∀ u ∈ st.r.up, look sx.ob u.1 = look sj.ob u.1 := fun u hu => Lob u.1 fun st' hI => hI.up' u hu
  have hnt : sx.nt = sj.nt := by rw [← hsx, hsj', SX_nt, SX_nt]
  have hguard : guardPC ops.toList sx st.o.guard = guardPC ops.toList sj st.o.guard := by
    cases hgd : st.o.guard with
    | none => rfl
    | some y =>
      obtain ⟨g, want⟩ := y
      simp only [guardPC]
      cases hg : ops.toList[g]? with
      | none => rfl
      | some og =>
        simp only
        cases hd : og.dst with
        | none => rfl
        | some t =>
          simp only
          rw [Lsl t]
          unfold readsOf
          simp [hgd, hg, hd]
  have hdst : dstOK sx st.o.dst = true := by
    have := Tdst
    cases hd : st.o.dst with
    | none => rfl
    | some d => rw [hd] at this; simp only [dstOK] at this ⊢; rw [hnt]; exact this
  -- afterwards
  have after : ∀ β' a' w', SimB C w0 ok0 ρ (stepOf sx st.o st.pc st.r) β' a' w' → K a' w' := by
    intro β' a' w' h2
    refine hK β' a' w' (h2.congr ?_ ?_ ?_)
    · intro t
      by_cases hd : st.o.dst = some t
      · rw [SX_hit_sl hj (by simp) hd]
        · simp [stepOf, look_putSl, hd]
        · intro k st' hk hlt hX hd'
          have hX' : X k = true := by
            have hne : ¬ k = j := by omega
            simpa [hne] using hX
          exact (I k st' hk (by rw [hX']; simp; omega)).dst t hd' hd
      · simp only [stepOf, look_putSl, if_neg hd]
        rw [← hsx]
        refine SX_sl rfl fun k st' hk hne hd' => ?_
        rw [Nat.zero_add] at hne
        have : k = j := by
          by_cases hkj : k = j
          · exact hkj
          · simp [hkj] at hne
        subst this
        rw [hj] at hk
        simp only [Option.some.injEq] at hk
        subst hk
        exact hd hd'
    · intro m
      cases hu : look st.r.up m with
      | some o' =>
        rw [SX_hit_ob hj (by simp) hu]
        · simp [stepOf, look_putOb, hu]
        · intro k st' hk hlt hX
          have hX' : X k = true := by
            have hne : ¬ k = j := by omega
            simpa [hne] using hX
          exact (I k st' hk (by rw [hX']; simp; omega)).up' _ (look_mem hu)
      | none =>
        simp only [stepOf, look_putOb, hu]
        rw [← hsx]
        refine SX_ob rfl fun k st' hk hne => ?_
        rw [Nat.zero_add] at hne
        have : k = j := by
          by_cases hkj : k = j
          · exact hkj
          · simp [hkj] at hne
        subst this
        rw [hj] at hk
        simp only [Option.some.injEq] at hk
        subst hk
        exact hu
    · rw [SX_nt, ← hsx] at *
      show _ = (SX X l 0 s0).nt
      rw [SX_nt]
  unfold wpOp
  simp only [hop]
  rcases Thow with ⟨hg, hr, hpc⟩ | ⟨hg, ⟨ob, he, hob⟩, hup, hnw, hnd, hnu, hnews, hbumps⟩
  · have hG := guard_ok h (hguard.trans hg)
    simp only [GuardSays] at hG
    rw [hG]
    simp only [Bool.false_eq_true, if_false]
    have h1 := SimB.put h (dst := st.o.dst) (v := .junk) (x := undef) hdst trivial
    refine after β _ w ?_
    rw [hr, hpc]
    exact h1
  · have hG := guard_ok h (hguard.trans hg)
    -- what is free
    have inNews : ∀ u ∈ st.r.up, look sj.ob u.1 = none → u.1 ∈ st.news := by
      intro u hu hn
      rw [hnews]
      exact List.mem_map.2 ⟨u, List.mem_filter.2 ⟨hu, by simp [hn]⟩, rfl⟩
    have slF : ∀ m, m ∈ st.news → slFree m sj.sl = true → slFree m sx.sl = true := by
      intro m hm hf
      rw [hsj', SX_all (fun s => slFree m s.sl = true) (fun st' => ∀ d, st'.o.dst = some d → (gdV st'.pc st'.r.v).free m = true) (fun s st' => slFree_putSl)] at hf
      rw [← hsx, SX_all (fun s => slFree m s.sl = true) (fun st' => ∀ d, st'.o.dst = some d → (gdV st'.pc st'.r.v).free m = true) (fun s st' => slFree_putSl)]
      refine ⟨fun k st' hk hX => ?_, hf.2⟩
      rw [Nat.zero_add] at hX
      by_cases hlt : k < j
      · exact hf.1 k st' hk (by simpa using hlt)
      · intro d _
        rw [gdV_free]
        exact (strange_new (I k st' hk (by rw [hX]; simp; omega)).st hm).1
    have obF : ∀ m, m ∈ st.news → obFree m sj.ob = true → obFree m sx.ob = true := by
      intro m hm hf
      rw [hsj', SX_all (fun s => obFree m s.ob = true) (fun st' => upFrees m st'.r.up = true) (fun s st' => obFree_putOb)] at hf
      rw [← hsx, SX_all (fun s => obFree m s.ob = true) (fun st' => upFrees m st'.r.up = true) (fun s st' => obFree_putOb)]
      refine ⟨fun k st' hk hX => ?_, hf.2⟩
      rw [Nat.zero_add] at hX
      by_cases hlt : k < j
      · exact hf.1 k st' hk (by simpa using hlt)
      · exact (strange_new (I k st' hk (by rw [hX]; simp; omega)).st hm).2
    have slFV : ∀ m ver, (m, ver) ∈ st.bumps → slFreeV m ver sj.sl = true → slFreeV m ver sx.sl = true := by
      intro m ver hm hf
      rw [hsj', SX_all (fun s => slFreeV m ver s.sl = true) (fun st' => ∀ d, st'.o.dst = some d → (gdV st'.pc st'.r.v).freeV m ver = true) (fun s st' => slFreeV_putSl)] at hf
      rw [← hsx, SX_all (fun s => slFreeV m ver s.sl = true) (fun st' => ∀ d, st'.o.dst = some d → (gdV st'.pc st'.r.v).freeV m ver = true) (fun s st' => slFreeV_putSl)]
      refine ⟨fun k st' hk hX => ?_, hf.2⟩
      rw [Nat.zero_add] at hX
      by_cases hlt : k < j
      · exact hf.1 k st' hk (by simpa using hlt)
      · intro d _
        rw [gdV_freeV]
        exact (strange_bump (I k st' hk (by rw [hX]; simp; omega)).st hm).1
    have obFV : ∀ m ver, (m, ver) ∈ st.bumps → obFreeV m ver sj.ob = true → obFreeV m ver sx.ob = true := by
      intro m ver hm hf
      rw [hsj', SX_all (fun s => obFreeV m ver s.ob = true) (fun st' => upFreeVs m ver st'.r.up = true) (fun s st' => obFreeV_putOb)] at hf
      rw [← hsx, SX_all (fun s => obFreeV m ver s.ob = true) (fun st' => upFreeVs m ver st'.r.up = true) (fun s st' => obFreeV_putOb)]
      refine ⟨fun k st' hk hX => ?_, hf.2⟩
      rw [Nat.zero_add] at hX
      by_cases hlt : k < j
      · exact hf.1 k st' hk (by simpa using hlt)
      · exact (strange_bump (I k st' hk (by rw [hX]; simp; omega)).st hm).2
    have hup' : st.r.up.all (upOK sx st.pc) = true := by
      refine List.all_eq_true.2 fun u hu => ?_
      have h1 := List.all_eq_true.1 hup u hu
      have hl := Lup u hu
      obtain ⟨m, o'⟩ := u
      simp only at hl
      unfold upOK at h1 ⊢
      simp only [hl]
      cases hsl : look sj.ob m with
      | none =>
        have hn := inNews _ hu hsl
        simp only [hsl] at h1
        cases o' with
        | arr e c ver =>
          simp only [Bool.and_eq_true] at h1 ⊢
          exact ⟨⟨h1.1.1, slF m hn h1.1.2⟩, obF m hn h1.2⟩
        | box t v =>
          simp only [Bool.and_eq_true] at h1 ⊢
          exact ⟨⟨slF m hn h1.1.1, obF m hn h1.1.2⟩, h1.2⟩
        | narr e f c ver rv hole =>
          simp only [Bool.and_eq_true] at h1 ⊢
          exact ⟨⟨h1.1.1, slF m hn h1.1.2⟩, obF m hn h1.2⟩
        | _ => simp at h1
      | some y =>
        obtain ⟨q, o0⟩ := y
        simp only [hsl] at h1
        cases o0 <;> cases o' <;> try (exact h1)
        rotate_left
        · rename_i e0 f0 c0 ver rv hole e f c ver' rv' hole'
          simp only [Bool.and_eq_true, Bool.or_eq_true, decide_eq_true_eq] at h1 ⊢
          refine ⟨h1.1, h1.2.1, h1.2.2.imp id fun h2 => ?_⟩
          have hb : (m, rv') ∈ st.bumps := by
            rw [hbumps]
            refine List.mem_filterMap.2 ⟨_, hu, ?_⟩
            simp only [hsl]
            rw [if_neg (by omega)]
          exact ⟨⟨h2.1.1, slFV m rv' hb h2.1.2⟩, obFV m rv' hb h2.2⟩
        rename_i e0 c0 ver e c ver'
        simp only [Bool.and_eq_true, Bool.or_eq_true, decide_eq_true_eq] at h1 ⊢
        refine ⟨h1.1, h1.2.imp id fun h2 => ?_⟩
        have hb : (m, ver') ∈ st.bumps := by
          rw [hbumps]
          refine List.mem_filterMap.2 ⟨_, hu, ?_⟩
          simp only [hsl]
          rw [if_neg (by omega)]
        exact ⟨⟨h2.1.1, slFV m ver' hb h2.1.2⟩, obFV m ver' hb h2.2⟩
    have hnw' : st.r.nw.all (fun m => (look sx.ob m).isNone) = true := by
      refine List.all_eq_true.2 fun m hm => ?_
      have h1 := List.all_eq_true.1 hnw m hm
      have h2 := List.all_eq_true.1 hnu m hm
      obtain ⟨u, hu, rfl⟩ := List.mem_map.1 (List.contains_iff_mem.1 h2)
      rw [Lup u hu]
      exact h1
    refine step_ok H HG Hok HS h hG he ?_ ?_ hdst hup' hnw' hnd hPj after
    · intro m o' hm
      rcases hob with rfl | ⟨rfl, hvis⟩
      · simp [noObs] at hm
      · unfold hide at hm
        split at hm
        · simp at hm
        · rename_i hh
          have hlook : look sx.ob m = look sj.ob m := by
            refine Lob m fun st' hI => hI.vis m ?_
            rw [hvis]
            refine List.mem_filter.2 ⟨?_, by simpa using hh⟩
            obtain ⟨q, h1, _⟩ := obsOf_some hm
            exact List.mem_map.2 ⟨_, look_mem h1, rfl⟩
          unfold obsOf at hm ⊢
          rw [hlook]
          exact hm
    · intro more x v hx
      unfold onlyOf at hx
      cases x with
      | tmp t =>
        simp only at hx
        split at hx
        · rename_i hc
          unfold opv at hx ⊢
          simp only [Lsl t (by simpa using hc)]
          exact hx
        · simp at hx
      | _ => exact hx
end
end Sy

/- Regions, whole. -/
namespace Sy
open Go Go.RowKit

def cnt (X : Nat → Bool) : Nat → Nat
  | 0 => 0
  | n + 1 => cnt X n + (if X n then 0 else 1)
theorem cnt_zero {X : Nat → Bool} : ∀ {n : Nat}, cnt X n = 0 → ∀ i, i < n → X i = true
  | 0, _, i, hi => by omega
  | n + 1, h, i, hi => by
    simp only [cnt] at h
    by_cases hin : i = n
    · subst hin
      cases hX : X i
      · simp [hX] at h
      · rfl
    · exact cnt_zero (n := n) (by omega) i (by omega)
theorem cnt_congr {X Y : Nat → Bool} : ∀ {n : Nat}, (∀ i, i < n → X i = Y i) → cnt X n = cnt Y n
  | 0, _ => rfl
  | n + 1, h => by simp only [cnt, h n (by omega), cnt_congr (n := n) fun i hi => h i (by omega)]
theorem cnt_put {X : Nat → Bool} {j : Nat} : ∀ {n : Nat}, j < n → X j = false → cnt (fun k => X k || decide (k = j)) n + 1 = cnt X n
  | 0, h, _ => by omega
  | n + 1, h, hX => by
    simp only [cnt]
    by_cases hjn : j = n
    · subst hjn
      have e : cnt (fun k => X k || decide (k = j)) j = cnt X j := cnt_congr fun i hi => by
        have : ¬ i = j := by omega
        simp [this]
      rw [e]
      simp [hX]
    · have := cnt_put (X := X) (j := j) (n := n) (by omega) hX
      have e : ¬ n = j := fun e => hjn e.symm
      simp only [e, decide_false, Bool.or_false]
      omega

theorem edgesOK_at : ∀ {l : List Oper} {i0 : Nat}, edgesOK l i0 = true → ∀ {i o}, l[i]? = some o → ∀ e ∈ o.after.toList, Region.binds .any e = true → e.on < i0 + i
  | [], _, _, _, _, hi, _, _, _ => by simp at hi
  | o :: l, i0, h, i, o', hi, e, he, hb => by
    simp only [edgesOK, Bool.and_eq_true, List.all_eq_true, Bool.or_eq_true, Bool.not_eq_true', decide_eq_true_eq] at h
    cases i with
    | zero =>
      simp only [List.getElem?_cons_zero, Option.some.injEq] at hi
      subst hi
      rcases h.1 e he with h1 | h1
      · rw [hb] at h1; simp at h1
      · simpa using h1
    | succ i =>
      have := edgesOK_at h.2 (i := i) (by simpa using hi) e he hb
      omega

section
variable {C : Ctx} {w0 : World} {ok0 : Nat → Prop} {ρ : List D} {s s' : S} {β : Be} {a : Act} {w : World}

theorem ready_iff {ops : Array Oper} {listed : Array Bool} {i : Nat} : i ∈ Region.ready .any ops listed ↔ i < ops.size ∧ listed.getD i true = false ∧ ∃ o, ops[i]? = some o ∧ ∀ e ∈ o.after.toList, Region.binds .any e = true → listed.getD e.on false = true := by
  unfold Region.ready
  rw [List.mem_filter, List.mem_range]
  refine and_congr_right fun hi => ?_
  rw [Bool.and_eq_true]
  refine and_congr (by simp) ?_
  cases ho : ops[i]? with
  | none => simp
  | some o =>
    simp only [Option.map_some, Option.getD_some, Option.some.injEq, exists_eq_left']
    rw [← Array.all_toList, List.all_eq_true]
    refine forall_congr' fun e => forall_congr' fun he => ?_
    cases Region.binds .any e <;> simp

theorem any_ok (H : COK C) (HG : GOK C w0 ok0) (Hok : ∀ b, ok0 b → b < w0.heap.size) {Γ : Fns} (HS : ∀ f, Sound C f (Γ f)) {ops : Array Oper} {l : List Step} {ms : List Nat} {s0 : S} (hms : ms = masks ops.toList []) (hdr : drawOK ops.toList ms l l 0 = true) (hed : edgesOK ops.toList 0 = true) (hlen : l.length = ops.size)
    (hT : ∀ j st, l[j]? = some st → Told C ops.toList (hidden ms) l s0 j st) (hP : ∀ j st, l[j]? = some st → pcOK C.G ρ st.pc = true → Passed C Γ ρ (SX (fun _ => true) (l.take j) 0 s0).n st.r.pre)
    {Q : Exit → Act → World → Prop} (hQ : ∀ β' a' w', SimB C w0 ok0 ρ (SX (fun _ => true) l 0 s0) β' a' w' → Q .normal a' w') : ∀ (fuel : Nat) (listed : Array Bool) (β : Be) (a : Act) (w : World), listed.size = ops.size → cnt (fun k => listed.getD k false) ops.size ≤ fuel →
      (∀ i k, listed.getD i false = true → (ms.getD i 0).testBit k = true → listed.getD k false = true) → SimB C w0 ok0 ρ (SX (fun k => listed.getD k false) l 0 s0) β a w → wpAny C.P .any ops Q fuel listed a w := by
  have allX : ∀ (listed : Array Bool), listed.size = ops.size → (∀ i, i < ops.size → listed.getD i false = true) → ∀ β a w, SimB C w0 ok0 ρ (SX (fun k => listed.getD k false) l 0 s0) β a w → Q .normal a w := by
    intro listed hsz hall β a w h
    refine hQ β a w ?_
    rw [SX_congr (Y := fun _ => true)] at h
    · exact h
    · intro k hk
      rw [Nat.zero_add]
      exact hall k (by omega)
  have noReady : ∀ (listed : Array Bool), listed.size = ops.size → Region.ready .any ops listed = [] → ∀ i, i < ops.size → listed.getD i false = true := by
    intro listed hsz hr i
    induction i using Nat.strongRecOn with
    | ind i ih =>
      intro hi
      cases hX : listed.getD i false with
      | true => rfl
      | false =>
        exfalso
        have : i ∈ Region.ready .any ops listed := by
          refine ready_iff.2 ⟨hi, ?_, ops[i], Array.getElem?_eq_getElem hi, fun e he hb => ?_⟩
          · rw [Array.getD_eq_getD_getElem?, Array.getElem?_eq_getElem (by omega)] at hX ⊢
            simpa using hX
          · have := edgesOK_at hed (i := i) (o := ops[i]) (by simp [hi]) e he hb
            exact ih e.on (by omega) (by omega)
        rw [hr] at this
        simp at this
  intro fuel
  induction fuel with
  | zero =>
    intro listed β a w hsz hc hcl h
    have hall := cnt_zero (Nat.le_zero.1 hc)
    refine ⟨?_, allX listed hsz hall β a w h⟩
    rw [List.eq_nil_iff_forall_not_mem]
    intro i hi
    obtain ⟨h1, h2, _⟩ := ready_iff.1 hi
    have := hall i h1
    rw [Array.getD_eq_getD_getElem?, Array.getElem?_eq_getElem (by omega)] at h2 this
    simp only [Option.getD_some] at h2 this
    rw [h2] at this
    simp at this
  | succ fuel ih =>
    intro listed β a w hsz hc hcl h
    refine ⟨fun hr => allX listed hsz (noReady listed hsz hr) β a w h, fun j hj => ?_⟩
    obtain ⟨h1, h2, o, h3, h4⟩ := ready_iff.1 hj
    have hXj : listed.getD j false = false := by
      rw [Array.getD_eq_getD_getElem?, Array.getElem?_eq_getElem (by omega)] at h2 ⊢
      simpa using h2
    obtain ⟨st, hst⟩ : ∃ st, l[j]? = some st := ⟨_, List.getElem?_eq_getElem (by omega)⟩
    have hso : st.o = o := by
      have := (hT j st hst).op
      rw [Array.getElem?_toList, h3] at this
      simpa using this.symm
    have hput : (fun k => (listed.setIfInBounds j true).getD k false) = fun k => listed.getD k false || decide (k = j) := by
      funext k
      simp only [Array.getD_eq_getD_getElem?, Array.getElem?_setIfInBounds]
      by_cases hk : j = k
      · subst hk; simp [show j < listed.size by omega]
      · have : ¬ k = j := fun e => hk e.symm
        simp [hk, this]
    refine draw_step H HG Hok HS hms hdr hT hP hcl hst hXj (by rw [hso]; exact h4) h fun β' a' w' h' => ?_
    refine ih _ β' a' w' (by simpa using hsz) ?_ ?_ (by rw [hput]; exact h')
    · rw [hput]
      have := cnt_put (X := fun k => listed.getD k false) (j := j) (n := ops.size) h1 hXj
      omega
    · intro i k hi hb
      have e : ∀ i, (listed.setIfInBounds j true).getD i false = (listed.getD i false || decide (i = j)) := fun i => congrFun hput i
      rw [e] at hi ⊢
      simp only [Bool.or_eq_true, decide_eq_true_eq] at hi ⊢
      rcases hi with hi | rfl
      · exact .inl (hcl i k hi hb)
      · left
        obtain ⟨e', k1, k2, k3, k4⟩ := (masks_at (l := ops.toList) (acc := [])).2 (j := i) (o := o) (by simpa using h3) (k := k) (by simpa [← hms] using hb)
        have hX := h4 e' k1 k2
        rcases k4 with rfl | k4
        · exact hX
        · exact hcl e'.on k hX (by rw [hms]; exact k4)

theorem scoped_of {ops : List Oper} {hid : List Step → Nat → List Nat} : ∀ {l : List Step} {s0 : S}, (∀ j st, l[j]? = some st → preSc (SX (fun _ => true) (l.take j) 0 s0).n st.r.pre = true ∧ pcSc (SX (fun _ => true) (l.take j) 0 s0).n st.pc = true) → Scoped s0.n l
  | [], _, _ => trivial
  | st :: l, s0, h => by
    have h0 := h 0 st rfl
    refine ⟨h0.1, h0.2, ?_⟩
    have := scoped_of (ops := ops) (hid := hid) (l := l) (s0 := stepOf s0 st.o st.pc st.r) fun j st' hj => by
      have := h (j + 1) st' (by simpa using hj)
      rw [SX_n] at this ⊢
      simp only [List.take_succ_cons, sumPre] at this
      simp only [stepOf]
      rw [show s0.n + preN st.r.pre + sumPre (l.take j) = s0.n + (preN st.r.pre + sumPre (l.take j)) by omega]
      exact this
    exact this

/-- A region. -/
theorem region_ok (H : COK C) (HG : GOK C w0 ok0) (Hok : ∀ b, ok0 b → b < w0.heap.size) {Γ : Fns} (HS : ∀ f, Sound C f (Γ f)) {N : Nat} {id : Nat} {ops : Array Oper} {draw : Bool} {k : IL} {out : Out} {Q : Exit → Act → World → Prop} {l : List Step}
    (hr : region C draw ops.toList s = some (l, s')) (h : SimB C w0 ok0 ρ s β a w) (hn : ρ.length = s.n) (hrun : run C.G Γ N (wrapSteps l k) ρ = some out)
    (hQ : ∀ ρ' β' a' w', (∃ ext, ρ' = ρ ++ ext) → SimB C w0 ok0 ρ' s' β' a' w' → ρ'.length = s'.n → run C.G Γ N k ρ' = some out → Q .normal a' w') : (Code.region id ops draw).wp C.P Q a w := by
  unfold region at hr
  cases draw with
  | false =>
    simp only [Bool.false_eq_true, if_false] at hr
    exact wp_region_list (straight_ok H HG Hok HS hQ ops.toList [] l s ρ β a w hr ⟨[], by simp⟩ h hn hrun)
  | true =>
    simp only [if_true] at hr
    generalize hms : masks ops.toList [] = ms at hr
    cases hreg : regSteps C true ops.toList (hidden ms) ops.toList [] s with
    | none => simp [hreg] at hr
    | some y =>
      obtain ⟨l1, s1⟩ := y
      simp only [hreg] at hr
      split at hr
      · rename_i hc
        simp only [Bool.and_eq_true] at hc
        obtain ⟨⟨⟨hdr, _⟩, hed⟩, hsc⟩ := hc
        simp only [Option.some.injEq, Prod.mk.injEq] at hr
        obtain ⟨rfl, rfl⟩ := hr
        obtain ⟨hT, hs', hlen⟩ := regSteps_told (acc := []) (l := l1) (s0 := s) hreg rfl rfl
        simp only [List.nil_append, List.length_nil, Nat.zero_le, forall_const] at hT hs' hlen
        have hT' : ∀ j st, l1[j]? = some st → Told C ops.toList (hidden ms) l1 s j st := fun j st hj => hT j st hj
        have hScoped := scoped_of (ops := ops.toList) (hid := hidden ms) (l := l1) (s0 := s) fun j st hj => (hT' j st hj).sc
        rw [← hn] at hScoped
        obtain ⟨ext, x1, x2, x3⟩ := passes hScoped hrun
        have h1 : SimB C w0 ok0 (ρ ++ ext) s β a w := h.append hsc hn.symm
        have h2 : SimB C w0 ok0 (ρ ++ ext) s β a { w with drawn := w.drawn + 1 } := h1.ext ⟨rfl, rfl, rfl, Nat.le_refl _, fun _ _ => rfl⟩
        refine wp_region_any H.mixed (any_ok H HG Hok HS (ρ := ρ ++ ext) hms.symm hdr hed (by rw [hlen]; simp) hT' ?_ ?_ ops.size (Array.replicate ops.size false) β a _ (by simp) ?_ ?_ ?_)
        · intro j st hj hpc
          rw [SX_n, ← hn]
          exact x3 j st hj hpc
        · intro β' a' w' h'
          rw [← hs'] at h'
          refine hQ (ρ ++ ext) β' a' w' ⟨ext, rfl⟩ h' ?_ x2
          rw [List.length_append, x1, hn, hs', SX_n]
        · have : ∀ (X : Nat → Bool) n, cnt X n ≤ n := fun X n => by
            induction n with
            | zero => exact Nat.le_refl _
            | succ n ih => simp only [cnt]; split <;> omega
          exact this _ _
        · intro i k hi
          simp [Array.getD_eq_getD_getElem?, Array.getElem?_replicate] at hi
          split at hi <;> simp at hi
        · rw [SX_none]
          · exact h2
          · intro k hk
            simp only [Array.getD_eq_getD_getElem?, Array.getElem?_replicate]
            split <;> rfl
      · simp at hr
end
end Sy
