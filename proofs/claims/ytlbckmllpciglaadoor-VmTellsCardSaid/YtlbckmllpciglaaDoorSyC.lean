/- The functions, together. Printed by a program of this claim's author. -/
import Derived.Test.YtlbckmllpciglaaDoorSyB0
import Derived.Test.YtlbckmllpciglaaDoorSyB1
import Derived.Test.YtlbckmllpciglaaDoorSyB2
import Derived.Test.YtlbckmllpciglaaDoorSyB3
import Derived.Test.YtlbckmllpciglaaDoorSyB4
import Derived.Test.YtlbckmllpciglaaDoorSyB5
import Derived.Test.YtlbckmllpciglaaDoorSyP
set_option linter.unusedVariables false
set_option linter.unusedSimpArgs false
set_option linter.all false
namespace Go.Proofs.YtlbckmllpciglaaDoor
open Go Sy
set_option maxRecDepth 100000
def tab : List (Nat × IL) := [(3, il3), (4, il4), (5, il5), (6, il6), (7, il7), (8, il8), (9, il9), (10, il10), (11, il11), (12, il12), (13, il13), (14, il14), (15, il15), (16, il16), (17, il17), (18, il18), (19, il19), (20, il20), (21, il21), (22, il22), (23, il23), (24, il24), (25, il25), (26, il26), (27, il27), (28, il28), (29, il29), (30, il30), (31, il31), (32, il32), (33, il33), (34, il34), (35, il35), (36, il36), (37, il37), (38, il38), (39, il39), (40, il40), (41, il41), (42, il42), (43, il43), (44, il44), (45, il45), (46, il46), (47, il47), (48, il48), (49, il49), (50, il50), (51, il51), (52, il52), (53, il53), (54, il54), (55, il55), (56, il56), (57, il57), (58, il58), (59, il59), (60, il60), (61, il61), (62, il62), (63, il63), (64, il64), (65, il65), (66, il66), (67, il67), (68, il68), (69, il69), (70, il70), (71, il71), (72, il72), (73, il73), (74, il74), (75, il75), (76, il76), (77, il77), (78, il78), (79, il79), (80, il80), (81, il81), (82, il82), (83, il83), (84, il84), (85, il85), (86, il86), (87, il87), (88, il88), (89, il89), (90, il90), (91, il91), (92, il92), (93, il93), (95, il95), (96, il96), (97, il97), (98, il98), (99, il99), (100, il100), (101, il101), (103, il103), (104, il104), (105, il105), (106, il106), (107, il107)]
def pri : List (Nat × (List D → Option (List D))) := [(94, cmpF)]
theorem tok : TOK C (Sy.look tab) :=
  TOK.cons ⟨⟨[.struct 25, .slice 3, .slice 37, .slice 37], [.bool], [false]⟩, Tryd.f3, h3, by kernel_rfl, Tryd.func3, d3⟩ <|
  TOK.cons ⟨⟨[.struct 25, .struct 25, .slice 3, .slice 37, .int .i64], [.bool], [false]⟩, Tryd.f4, h4, by kernel_rfl, Tryd.func4, d4⟩ <|
  TOK.cons ⟨⟨[.struct 25, .slice 3, .slice 37], [.bool], [false]⟩, Tryd.f5, h5, by kernel_rfl, Tryd.func5, d5⟩ <|
  TOK.cons ⟨⟨[], [.bool], [false]⟩, Tryd.f6, h6, by kernel_rfl, Tryd.func6, d6⟩ <|
  TOK.cons ⟨⟨[.struct 25, .slice 3, .slice 37], [.bool], [false]⟩, Tryd.f7, h7, by kernel_rfl, Tryd.func7, d7⟩ <|
  TOK.cons ⟨⟨[.slice 3, .slice 37], [.bool], [false]⟩, Tryd.f8, h8, by kernel_rfl, Tryd.func8, d8⟩ <|
  TOK.cons ⟨⟨[.struct 25, .slice 3], [.int .i64, .int .i64], [false, false]⟩, Tryd.f9, h9, by kernel_rfl, Tryd.func9, d9⟩ <|
  TOK.cons ⟨⟨[.struct 25, .slice 3, .slice 37], [.slice 39, .int .i64], [true, false]⟩, Tryd.f10, h10, by kernel_rfl, Tryd.func10, d10⟩ <|
  TOK.cons ⟨⟨[.slice 39, .slice 39], [.bool], [false]⟩, Tryd.f11, h11, by kernel_rfl, Tryd.func11, d11⟩ <|
  TOK.cons ⟨⟨[.struct 25, .slice 3, .slice 37], [.slice 39, .int .i64], [true, false]⟩, Tryd.f12, h12, by kernel_rfl, Tryd.func12, d12⟩ <|
  TOK.cons ⟨⟨[.struct 25, .slice 3, .slice 37], [.slice 37, .int .i64], [true, false]⟩, Tryd.f13, h13, by kernel_rfl, Tryd.func13, d13⟩ <|
  TOK.cons ⟨⟨[.struct 25, .slice 3, .slice 37], [.slice 37, .int .i64], [true, false]⟩, Tryd.f14, h14, by kernel_rfl, Tryd.func14, d14⟩ <|
  TOK.cons ⟨⟨[.slice 37, .slice 37], [.bool], [false]⟩, Tryd.f15, h15, by kernel_rfl, Tryd.func15, d15⟩ <|
  TOK.cons ⟨⟨[.slice 25, .slice 3, .slice 37], [.slice 37, .int .i64], [false, false]⟩, Tryd.f16, h16, by kernel_rfl, Tryd.func16, d16⟩ <|
  TOK.cons ⟨⟨[.slice 25, .slice 3, .slice 37], [.slice 37, .int .i64], [true, false]⟩, Tryd.f17, h17, by kernel_rfl, Tryd.func17, d17⟩ <|
  TOK.cons ⟨⟨[.struct 25, .int .i64], [.int .i64], [false]⟩, Tryd.f18, h18, by kernel_rfl, Tryd.func18, d18⟩ <|
  TOK.cons ⟨⟨[.struct 25], [.struct 25], [false]⟩, Tryd.f19, h19, by kernel_rfl, Tryd.func19, d19⟩ <|
  TOK.cons ⟨⟨[.struct 25], [.struct 25], [false]⟩, Tryd.f20, h20, by kernel_rfl, Tryd.func20, d20⟩ <|
  TOK.cons ⟨⟨[.int .i64, .int .i64], [.struct 37], [false]⟩, Tryd.f21, h21, by kernel_rfl, Tryd.func21, d21⟩ <|
  TOK.cons ⟨⟨[.slice 39, .int .i64], [.bool], [false]⟩, Tryd.f22, h22, by kernel_rfl, Tryd.func22, d22⟩ <|
  TOK.cons ⟨⟨[.slice 39], [.bool], [false]⟩, Tryd.f23, h23, by kernel_rfl, Tryd.func23, d23⟩ <|
  TOK.cons ⟨⟨[.slice 3, .func 56], [.bool], [false]⟩, Tryd.f24, h24, by kernel_rfl, Tryd.func24, d24⟩ <|
  TOK.cons ⟨⟨[.int .i64], [.bool], [false]⟩, Tryd.f25, h25, by kernel_rfl, Tryd.func25, d25⟩ <|
  TOK.cons ⟨⟨[.struct 52, .slice 3, .slice 3, .slice 4], [.int .i64], [false]⟩, Tryd.f26, h26, by kernel_rfl, Tryd.func26, d26⟩ <|
  TOK.cons ⟨⟨[.slice 3, .slice 37], [.bool], [false]⟩, Tryd.f27, h27, by kernel_rfl, Tryd.func27, d27⟩ <|
  TOK.cons ⟨⟨[.struct 25, .slice 37], [.slice 39], [true]⟩, Tryd.f28, h28, by kernel_rfl, Tryd.func28, d28⟩ <|
  TOK.cons ⟨⟨[.slice 39, .slice 39], [.int .i64], [false]⟩, Tryd.f29, h29, by kernel_rfl, Tryd.func29, d29⟩ <|
  TOK.cons ⟨⟨[.struct 25, .slice 3], [.int .i64, .int .i64], [false, false]⟩, Tryd.f30, h30, by kernel_rfl, Tryd.func30, d30⟩ <|
  TOK.cons ⟨⟨[.struct 25, .int .i64, .slice 39], [.struct 39], [false]⟩, Tryd.f31, h31, by kernel_rfl, Tryd.func31, d31⟩ <|
  TOK.cons ⟨⟨[.slice 39], [.slice 39], [true]⟩, Tryd.f32, h32, by kernel_rfl, Tryd.func32, d32⟩ <|
  TOK.cons ⟨⟨[.slice 3], [.slice 3], [true]⟩, Tryd.f33, h33, by kernel_rfl, Tryd.func33, d33⟩ <|
  TOK.cons ⟨⟨[.struct 25], [.slice 4], [true]⟩, Tryd.f34, h34, by kernel_rfl, Tryd.func34, d34⟩ <|
  TOK.cons ⟨⟨[.struct 25], [.slice 23, .int .i64], [true, false]⟩, Tryd.f35, h35, by kernel_rfl, Tryd.func35, d35⟩ <|
  TOK.cons ⟨⟨[.slice 39], [.bool], [false]⟩, Tryd.f36, h36, by kernel_rfl, Tryd.func36, d36⟩ <|
  TOK.cons ⟨⟨[.slice 3, .func 56], [.int .i64], [false]⟩, Tryd.f37, h37, by kernel_rfl, Tryd.func37, d37⟩ <|
  TOK.cons ⟨⟨[.struct 52], [.bool], [false]⟩, Tryd.f38, h38, by kernel_rfl, Tryd.func38, d38⟩ <|
  TOK.cons ⟨⟨[.struct 52], [.slice 3], [false]⟩, Tryd.f39, h39, by kernel_rfl, Tryd.func39, d39⟩ <|
  TOK.cons ⟨⟨[.int .i64, .ptr 57], [.bool], [false]⟩, Tryd.f40, h40, by kernel_rfl, Tryd.func40, d40⟩ <|
  TOK.cons ⟨⟨[.slice 107, .slice 3, .slice 3, .struct 75], [.int .i64, .bool], [false, false]⟩, Tryd.f41, h41, by kernel_rfl, Tryd.func41, d41⟩ <|
  TOK.cons ⟨⟨[.slice 39], [.bool], [false]⟩, Tryd.f42, h42, by kernel_rfl, Tryd.func42, d42⟩ <|
  TOK.cons ⟨⟨[.ptr 81, .struct 52], [.slice 39], [true]⟩, Tryd.f43, h43, by kernel_rfl, Tryd.func43, d43⟩ <|
  TOK.cons ⟨⟨[.ptr 81, .struct 52], [.slice 39], [true]⟩, Tryd.f44, h44, by kernel_rfl, Tryd.func44, d44⟩ <|
  TOK.cons ⟨⟨[.ptr 81, .struct 52], [.slice 39], [true]⟩, Tryd.f45, h45, by kernel_rfl, Tryd.func45, d45⟩ <|
  TOK.cons ⟨⟨[.ptr 81, .struct 52], [.slice 39], [true]⟩, Tryd.f46, h46, by kernel_rfl, Tryd.func46, d46⟩ <|
  TOK.cons ⟨⟨[.struct 39, .struct 39], [.int .i64], [false]⟩, Tryd.f47, h47, by kernel_rfl, Tryd.func47, d47⟩ <|
  TOK.cons ⟨⟨[.struct 52], [.bool], [false]⟩, Tryd.f48, h48, by kernel_rfl, Tryd.func48, d48⟩ <|
  TOK.cons ⟨⟨[.struct 52], [.slice 3], [false]⟩, Tryd.f49, h49, by kernel_rfl, Tryd.func49, d49⟩ <|
  TOK.cons ⟨⟨[.struct 52, .slice 3, .slice 3], [.int .i64, .bool], [false, false]⟩, Tryd.f50, h50, by kernel_rfl, Tryd.func50, d50⟩ <|
  TOK.cons ⟨⟨[.struct 25, .int .i64, .slice 39], [.slice 39], [true]⟩, Tryd.f51, h51, by kernel_rfl, Tryd.func51, d51⟩ <|
  TOK.cons ⟨⟨[.struct 25, .int .i64, .int .i64], [.int .i64], [false]⟩, Tryd.f52, h52, by kernel_rfl, Tryd.func52, d52⟩ <|
  TOK.cons ⟨⟨[.struct 39], [.bool], [false]⟩, Tryd.f53, h53, by kernel_rfl, Tryd.func53, d53⟩ <|
  TOK.cons ⟨⟨[.int .i64], [.bool], [false]⟩, Tryd.f54, h54, by kernel_rfl, Tryd.func54, d54⟩ <|
  TOK.cons ⟨⟨[.struct 52], [.struct 52], [false]⟩, Tryd.f55, h55, by kernel_rfl, Tryd.func55, d55⟩ <|
  TOK.cons ⟨⟨[.int .i64], [.int .i64], [false]⟩, Tryd.f56, h56, by kernel_rfl, Tryd.func56, d56⟩ <|
  TOK.cons ⟨⟨[.slice 107], [.bool], [false]⟩, Tryd.f57, h57, by kernel_rfl, Tryd.func57, d57⟩ <|
  TOK.cons ⟨⟨[.struct 95, .struct 75], [.int .i64, .bool], [false, false]⟩, Tryd.f58, h58, by kernel_rfl, Tryd.func58, d58⟩ <|
  TOK.cons ⟨⟨[.slice 39], [.bool], [false]⟩, Tryd.f59, h59, by kernel_rfl, Tryd.func59, d59⟩ <|
  TOK.cons ⟨⟨[.ptr 81, .func 98], [.slice 39], [true]⟩, Tryd.f60, h60, by kernel_rfl, Tryd.func60, d60⟩ <|
  TOK.cons ⟨⟨[.int .i64, .ptr 52, .ptr 78], [.struct 39], [false]⟩, Tryd.f61, h61, by kernel_rfl, Tryd.func61, d61⟩ <|
  TOK.cons ⟨⟨[.int .i64], [.struct 39], [false]⟩, Tryd.f62, h62, by kernel_rfl, Tryd.func62, d62⟩ <|
  TOK.cons ⟨⟨[.bool], [.struct 39], [false]⟩, Tryd.f63, h63, by kernel_rfl, Tryd.func63, d63⟩ <|
  TOK.cons ⟨⟨[.str], [.struct 39], [false]⟩, Tryd.f64, h64, by kernel_rfl, Tryd.func64, d64⟩ <|
  TOK.cons ⟨⟨[.int .i64, .ptr 52, .ptr 33], [.struct 39], [false]⟩, Tryd.f65, h65, by kernel_rfl, Tryd.func65, d65⟩ <|
  TOK.cons ⟨⟨[.int .i64, .ptr 52, .ptr 33, .ptr 33], [.struct 39], [false]⟩, Tryd.f66, h66, by kernel_rfl, Tryd.func66, d66⟩ <|
  TOK.cons ⟨⟨[.struct 39, .struct 39], [.int .i64], [false]⟩, Tryd.f67, h67, by kernel_rfl, Tryd.func67, d67⟩ <|
  TOK.cons ⟨⟨[.int .i64, .int .i64, .int .i64], [.struct 39], [false]⟩, Tryd.f68, h68, by kernel_rfl, Tryd.func68, d68⟩ <|
  TOK.cons ⟨⟨[.int .i64, .ptr 33, .ptr 33, .ptr 33], [.struct 39], [false]⟩, Tryd.f69, h69, by kernel_rfl, Tryd.func69, d69⟩ <|
  TOK.cons ⟨⟨[.int .i64], [.str], [false]⟩, Tryd.f70, h70, by kernel_rfl, Tryd.func70, d70⟩ <|
  TOK.cons ⟨⟨[.int .i64], [.int .i64], [false]⟩, Tryd.f71, h71, by kernel_rfl, Tryd.func71, d71⟩ <|
  TOK.cons ⟨⟨[.slice 107, .slice 3, .slice 3, .struct 75], [.int .i64, .bool], [false, false]⟩, Tryd.f72, h72, by kernel_rfl, Tryd.func72, d72⟩ <|
  TOK.cons ⟨⟨[.struct 39], [.struct 75], [false]⟩, Tryd.f73, h73, by kernel_rfl, Tryd.func73, d73⟩ <|
  TOK.cons ⟨⟨[.slice 107, .struct 75, .int .i64, .slice 39], [.struct 39], [false]⟩, Tryd.f74, h74, by kernel_rfl, Tryd.func74, d74⟩ <|
  TOK.cons ⟨⟨[.int .i64], [.bool], [false]⟩, Tryd.f75, h75, by kernel_rfl, Tryd.func75, d75⟩ <|
  TOK.cons ⟨⟨[.int .i64], [.bool], [false]⟩, Tryd.f76, h76, by kernel_rfl, Tryd.func76, d76⟩ <|
  TOK.cons ⟨⟨[.struct 75], [.int .i64], [false]⟩, Tryd.f77, h77, by kernel_rfl, Tryd.func77, d77⟩ <|
  TOK.cons ⟨⟨[.struct 95, .struct 75], [.int .i64, .bool], [false, false]⟩, Tryd.f78, h78, by kernel_rfl, Tryd.func78, d78⟩ <|
  TOK.cons ⟨⟨[.slice 39, .func 88], [.bool], [false]⟩, Tryd.f79, h79, by kernel_rfl, Tryd.func79, d79⟩ <|
  TOK.cons ⟨⟨[.struct 39], [.bool], [false]⟩, Tryd.f80, h80, by kernel_rfl, Tryd.func80, d80⟩ <|
  TOK.cons ⟨⟨[.struct 39], [.bool], [false]⟩, Tryd.f81, h81, by kernel_rfl, Tryd.func81, d81⟩ <|
  TOK.cons ⟨⟨[.slice 3], [.int .i64], [false]⟩, Tryd.f82, h82, by kernel_rfl, Tryd.func82, d82⟩ <|
  TOK.cons ⟨⟨[.int .i64, .int .i64], [.int .i64], [false]⟩, Tryd.f83, h83, by kernel_rfl, Tryd.func83, d83⟩ <|
  TOK.cons ⟨⟨[.str, .str], [.int .i64], [false]⟩, Tryd.f84, h84, by kernel_rfl, Tryd.func84, d84⟩ <|
  TOK.cons ⟨⟨[.int .i64, .int .i64], [.int .i64, .int .i64], [false, false]⟩, Tryd.f85, h85, by kernel_rfl, Tryd.func85, d85⟩ <|
  TOK.cons ⟨⟨[.slice 107], [.bool], [false]⟩, Tryd.f86, h86, by kernel_rfl, Tryd.func86, d86⟩ <|
  TOK.cons ⟨⟨[.slice 107, .slice 3, .slice 3, .struct 75], [.int .i64, .bool], [false, false]⟩, Tryd.f87, h87, by kernel_rfl, Tryd.func87, d87⟩ <|
  TOK.cons ⟨⟨[.slice 107, .struct 75, .int .i64, .slice 39, .slice 39], [.struct 117], [false]⟩, Tryd.f88, h88, by kernel_rfl, Tryd.func88, d88⟩ <|
  TOK.cons ⟨⟨[.struct 95, .struct 75], [.int .i64, .bool], [false, false]⟩, Tryd.f89, h89, by kernel_rfl, Tryd.func89, d89⟩ <|
  TOK.cons ⟨⟨[.slice 3, .slice 3], [.bool], [false]⟩, Tryd.f90, h90, by kernel_rfl, Tryd.func90, d90⟩ <|
  TOK.cons ⟨⟨[.struct 75, .slice 3], [.int .i64, .bool], [false, false]⟩, Tryd.f91, h91, by kernel_rfl, Tryd.func91, d91⟩ <|
  TOK.cons ⟨⟨[.slice 39, .func 88], [.int .i64], [false]⟩, Tryd.f92, h92, by kernel_rfl, Tryd.func92, d92⟩ <|
  TOK.cons ⟨⟨[.int .i64], [.bool], [false]⟩, Tryd.f93, h93, by kernel_rfl, Tryd.func93, d93⟩ <|
  TOK.cons ⟨⟨[.int .i64], [.bool], [false]⟩, Tryd.f95, h95, by kernel_rfl, Tryd.func95, d95⟩ <|
  TOK.cons ⟨⟨[.struct 75], [.int .i64], [false]⟩, Tryd.f96, h96, by kernel_rfl, Tryd.func96, d96⟩ <|
  TOK.cons ⟨⟨[.slice 107, .slice 3, .slice 3, .struct 75], [.int .i64, .bool], [false, false]⟩, Tryd.f97, h97, by kernel_rfl, Tryd.func97, d97⟩ <|
  TOK.cons ⟨⟨[.struct 75, .slice 39], [.struct 39], [false]⟩, Tryd.f98, h98, by kernel_rfl, Tryd.func98, d98⟩ <|
  TOK.cons ⟨⟨[.slice 3, .int .i64], [.int .i64, .bool], [false, false]⟩, Tryd.f99, h99, by kernel_rfl, Tryd.func99, d99⟩ <|
  TOK.cons ⟨⟨[.int .i64, .int .i64, .ptr 23], [.bool], [false]⟩, Tryd.f100, h100, by kernel_rfl, Tryd.func100, d100⟩ <|
  TOK.cons ⟨⟨[.int .i64, .ptr 3], [.bool], [false]⟩, Tryd.f101, h101, by kernel_rfl, Tryd.func101, d101⟩ <|
  TOK.cons ⟨⟨[.slice 107, .int .i64, .slice 3], [.int .i64, .bool], [false, false]⟩, Tryd.f103, h103, by kernel_rfl, Tryd.func103, d103⟩ <|
  TOK.cons ⟨⟨[.int .i64], [.int .i64], [false]⟩, Tryd.f104, h104, by kernel_rfl, Tryd.func104, d104⟩ <|
  TOK.cons ⟨⟨[.slice 3, .int .i64], [.int .i64, .bool], [false, false]⟩, Tryd.f105, h105, by kernel_rfl, Tryd.func105, d105⟩ <|
  TOK.cons ⟨⟨[.bool], [.struct 39], [false]⟩, Tryd.f106, h106, by kernel_rfl, Tryd.func106, d106⟩ <|
  TOK.cons ⟨⟨[.struct 39, .struct 39], [.bool], [false]⟩, Tryd.f107, h107, by kernel_rfl, Tryd.func107, d107⟩ <|
  TOK.nil
theorem prok : ∀ f g, Sy.look pri f = some g → Sound C f g :=
  PRI.cons cmpF_sound <|
  PRI.nil
/-- What a function answers. -/
noncomputable def R : Fns := Run C.G (Sy.look pri) (Sy.look tab)
theorem R_sound (f : Nat) : Sound C f (R f) := Run_sound cok tok prok f
theorem r3 (a0 a1 a2 a3 : D) : R 3 [a0, a1, a2, a3] = (den C.G R il3 [a0, a1, a2, a3]).bind outs := Run_at (by kernel_rfl) (by kernel_rfl) _
theorem r4 (a0 a1 a2 a3 a4 : D) : R 4 [a0, a1, a2, a3, a4] = (den C.G R il4 [a0, a1, a2, a3, a4]).bind outs := Run_at (by kernel_rfl) (by kernel_rfl) _
theorem r5 (a0 a1 a2 : D) : R 5 [a0, a1, a2] = (den C.G R il5 [a0, a1, a2]).bind outs := Run_at (by kernel_rfl) (by kernel_rfl) _
theorem r6 : R 6 [] = (den C.G R il6 []).bind outs := Run_at (by kernel_rfl) (by kernel_rfl) _
theorem r7 (a0 a1 a2 : D) : R 7 [a0, a1, a2] = (den C.G R il7 [a0, a1, a2]).bind outs := Run_at (by kernel_rfl) (by kernel_rfl) _
theorem r8 (a0 a1 : D) : R 8 [a0, a1] = (den C.G R il8 [a0, a1]).bind outs := Run_at (by kernel_rfl) (by kernel_rfl) _
theorem r9 (a0 a1 : D) : R 9 [a0, a1] = (den C.G R il9 [a0, a1]).bind outs := Run_at (by kernel_rfl) (by kernel_rfl) _
theorem r10 (a0 a1 a2 : D) : R 10 [a0, a1, a2] = (den C.G R il10 [a0, a1, a2]).bind outs := Run_at (by kernel_rfl) (by kernel_rfl) _
theorem r11 (a0 a1 : D) : R 11 [a0, a1] = (den C.G R il11 [a0, a1]).bind outs := Run_at (by kernel_rfl) (by kernel_rfl) _
theorem r12 (a0 a1 a2 : D) : R 12 [a0, a1, a2] = (den C.G R il12 [a0, a1, a2]).bind outs := Run_at (by kernel_rfl) (by kernel_rfl) _
theorem r13 (a0 a1 a2 : D) : R 13 [a0, a1, a2] = (den C.G R il13 [a0, a1, a2]).bind outs := Run_at (by kernel_rfl) (by kernel_rfl) _
theorem r14 (a0 a1 a2 : D) : R 14 [a0, a1, a2] = (den C.G R il14 [a0, a1, a2]).bind outs := Run_at (by kernel_rfl) (by kernel_rfl) _
theorem r15 (a0 a1 : D) : R 15 [a0, a1] = (den C.G R il15 [a0, a1]).bind outs := Run_at (by kernel_rfl) (by kernel_rfl) _
theorem r16 (a0 a1 a2 : D) : R 16 [a0, a1, a2] = (den C.G R il16 [a0, a1, a2]).bind outs := Run_at (by kernel_rfl) (by kernel_rfl) _
theorem r17 (a0 a1 a2 : D) : R 17 [a0, a1, a2] = (den C.G R il17 [a0, a1, a2]).bind outs := Run_at (by kernel_rfl) (by kernel_rfl) _
theorem r18 (a0 a1 : D) : R 18 [a0, a1] = (den C.G R il18 [a0, a1]).bind outs := Run_at (by kernel_rfl) (by kernel_rfl) _
theorem r19 (a0 : D) : R 19 [a0] = (den C.G R il19 [a0]).bind outs := Run_at (by kernel_rfl) (by kernel_rfl) _
theorem r20 (a0 : D) : R 20 [a0] = (den C.G R il20 [a0]).bind outs := Run_at (by kernel_rfl) (by kernel_rfl) _
theorem r21 (a0 a1 : D) : R 21 [a0, a1] = (den C.G R il21 [a0, a1]).bind outs := Run_at (by kernel_rfl) (by kernel_rfl) _
theorem r22 (a0 a1 : D) : R 22 [a0, a1] = (den C.G R il22 [a0, a1]).bind outs := Run_at (by kernel_rfl) (by kernel_rfl) _
theorem r23 (a0 : D) : R 23 [a0] = (den C.G R il23 [a0]).bind outs := Run_at (by kernel_rfl) (by kernel_rfl) _
theorem r24 (a0 a1 : D) : R 24 [a0, a1] = (den C.G R il24 [a0, a1]).bind outs := Run_at (by kernel_rfl) (by kernel_rfl) _
theorem r25 (a0 : D) : R 25 [a0] = (den C.G R il25 [a0]).bind outs := Run_at (by kernel_rfl) (by kernel_rfl) _
theorem r26 (a0 a1 a2 a3 : D) : R 26 [a0, a1, a2, a3] = (den C.G R il26 [a0, a1, a2, a3]).bind outs := Run_at (by kernel_rfl) (by kernel_rfl) _
theorem r27 (a0 a1 : D) : R 27 [a0, a1] = (den C.G R il27 [a0, a1]).bind outs := Run_at (by kernel_rfl) (by kernel_rfl) _
theorem r28 (a0 a1 : D) : R 28 [a0, a1] = (den C.G R il28 [a0, a1]).bind outs := Run_at (by kernel_rfl) (by kernel_rfl) _
theorem r29 (a0 a1 : D) : R 29 [a0, a1] = (den C.G R il29 [a0, a1]).bind outs := Run_at (by kernel_rfl) (by kernel_rfl) _
theorem r30 (a0 a1 : D) : R 30 [a0, a1] = (den C.G R il30 [a0, a1]).bind outs := Run_at (by kernel_rfl) (by kernel_rfl) _
theorem r31 (a0 a1 a2 : D) : R 31 [a0, a1, a2] = (den C.G R il31 [a0, a1, a2]).bind outs := Run_at (by kernel_rfl) (by kernel_rfl) _
theorem r32 (a0 : D) : R 32 [a0] = (den C.G R il32 [a0]).bind outs := Run_at (by kernel_rfl) (by kernel_rfl) _
theorem r33 (a0 : D) : R 33 [a0] = (den C.G R il33 [a0]).bind outs := Run_at (by kernel_rfl) (by kernel_rfl) _
theorem r34 (a0 : D) : R 34 [a0] = (den C.G R il34 [a0]).bind outs := Run_at (by kernel_rfl) (by kernel_rfl) _
theorem r35 (a0 : D) : R 35 [a0] = (den C.G R il35 [a0]).bind outs := Run_at (by kernel_rfl) (by kernel_rfl) _
theorem r36 (a0 : D) : R 36 [a0] = (den C.G R il36 [a0]).bind outs := Run_at (by kernel_rfl) (by kernel_rfl) _
theorem r37 (a0 a1 : D) : R 37 [a0, a1] = (den C.G R il37 [a0, a1]).bind outs := Run_at (by kernel_rfl) (by kernel_rfl) _
theorem r38 (a0 : D) : R 38 [a0] = (den C.G R il38 [a0]).bind outs := Run_at (by kernel_rfl) (by kernel_rfl) _
theorem r39 (a0 : D) : R 39 [a0] = (den C.G R il39 [a0]).bind outs := Run_at (by kernel_rfl) (by kernel_rfl) _
theorem r40 (a0 a1 : D) : R 40 [a0, a1] = (den C.G R il40 [a0, a1]).bind outs := Run_at (by kernel_rfl) (by kernel_rfl) _
theorem r41 (a0 a1 a2 a3 : D) : R 41 [a0, a1, a2, a3] = (den C.G R il41 [a0, a1, a2, a3]).bind outs := Run_at (by kernel_rfl) (by kernel_rfl) _
theorem r42 (a0 : D) : R 42 [a0] = (den C.G R il42 [a0]).bind outs := Run_at (by kernel_rfl) (by kernel_rfl) _
theorem r43 (a0 a1 : D) : R 43 [a0, a1] = (den C.G R il43 [a0, a1]).bind outs := Run_at (by kernel_rfl) (by kernel_rfl) _
theorem r44 (a0 a1 : D) : R 44 [a0, a1] = (den C.G R il44 [a0, a1]).bind outs := Run_at (by kernel_rfl) (by kernel_rfl) _
theorem r45 (a0 a1 : D) : R 45 [a0, a1] = (den C.G R il45 [a0, a1]).bind outs := Run_at (by kernel_rfl) (by kernel_rfl) _
theorem r46 (a0 a1 : D) : R 46 [a0, a1] = (den C.G R il46 [a0, a1]).bind outs := Run_at (by kernel_rfl) (by kernel_rfl) _
theorem r47 (a0 a1 : D) : R 47 [a0, a1] = (den C.G R il47 [a0, a1]).bind outs := Run_at (by kernel_rfl) (by kernel_rfl) _
theorem r48 (a0 : D) : R 48 [a0] = (den C.G R il48 [a0]).bind outs := Run_at (by kernel_rfl) (by kernel_rfl) _
theorem r49 (a0 : D) : R 49 [a0] = (den C.G R il49 [a0]).bind outs := Run_at (by kernel_rfl) (by kernel_rfl) _
theorem r50 (a0 a1 a2 : D) : R 50 [a0, a1, a2] = (den C.G R il50 [a0, a1, a2]).bind outs := Run_at (by kernel_rfl) (by kernel_rfl) _
theorem r51 (a0 a1 a2 : D) : R 51 [a0, a1, a2] = (den C.G R il51 [a0, a1, a2]).bind outs := Run_at (by kernel_rfl) (by kernel_rfl) _
theorem r52 (a0 a1 a2 : D) : R 52 [a0, a1, a2] = (den C.G R il52 [a0, a1, a2]).bind outs := Run_at (by kernel_rfl) (by kernel_rfl) _
theorem r53 (a0 : D) : R 53 [a0] = (den C.G R il53 [a0]).bind outs := Run_at (by kernel_rfl) (by kernel_rfl) _
theorem r54 (a0 : D) : R 54 [a0] = (den C.G R il54 [a0]).bind outs := Run_at (by kernel_rfl) (by kernel_rfl) _
theorem r55 (a0 : D) : R 55 [a0] = (den C.G R il55 [a0]).bind outs := Run_at (by kernel_rfl) (by kernel_rfl) _
theorem r56 (a0 : D) : R 56 [a0] = (den C.G R il56 [a0]).bind outs := Run_at (by kernel_rfl) (by kernel_rfl) _
theorem r57 (a0 : D) : R 57 [a0] = (den C.G R il57 [a0]).bind outs := Run_at (by kernel_rfl) (by kernel_rfl) _
theorem r58 (a0 a1 : D) : R 58 [a0, a1] = (den C.G R il58 [a0, a1]).bind outs := Run_at (by kernel_rfl) (by kernel_rfl) _
theorem r59 (a0 : D) : R 59 [a0] = (den C.G R il59 [a0]).bind outs := Run_at (by kernel_rfl) (by kernel_rfl) _
theorem r60 (a0 a1 : D) : R 60 [a0, a1] = (den C.G R il60 [a0, a1]).bind outs := Run_at (by kernel_rfl) (by kernel_rfl) _
theorem r61 (a0 a1 a2 : D) : R 61 [a0, a1, a2] = (den C.G R il61 [a0, a1, a2]).bind outs := Run_at (by kernel_rfl) (by kernel_rfl) _
theorem r62 (a0 : D) : R 62 [a0] = (den C.G R il62 [a0]).bind outs := Run_at (by kernel_rfl) (by kernel_rfl) _
theorem r63 (a0 : D) : R 63 [a0] = (den C.G R il63 [a0]).bind outs := Run_at (by kernel_rfl) (by kernel_rfl) _
theorem r64 (a0 : D) : R 64 [a0] = (den C.G R il64 [a0]).bind outs := Run_at (by kernel_rfl) (by kernel_rfl) _
theorem r65 (a0 a1 a2 : D) : R 65 [a0, a1, a2] = (den C.G R il65 [a0, a1, a2]).bind outs := Run_at (by kernel_rfl) (by kernel_rfl) _
theorem r66 (a0 a1 a2 a3 : D) : R 66 [a0, a1, a2, a3] = (den C.G R il66 [a0, a1, a2, a3]).bind outs := Run_at (by kernel_rfl) (by kernel_rfl) _
theorem r67 (a0 a1 : D) : R 67 [a0, a1] = (den C.G R il67 [a0, a1]).bind outs := Run_at (by kernel_rfl) (by kernel_rfl) _
theorem r68 (a0 a1 a2 : D) : R 68 [a0, a1, a2] = (den C.G R il68 [a0, a1, a2]).bind outs := Run_at (by kernel_rfl) (by kernel_rfl) _
theorem r69 (a0 a1 a2 a3 : D) : R 69 [a0, a1, a2, a3] = (den C.G R il69 [a0, a1, a2, a3]).bind outs := Run_at (by kernel_rfl) (by kernel_rfl) _
theorem r70 (a0 : D) : R 70 [a0] = (den C.G R il70 [a0]).bind outs := Run_at (by kernel_rfl) (by kernel_rfl) _
theorem r71 (a0 : D) : R 71 [a0] = (den C.G R il71 [a0]).bind outs := Run_at (by kernel_rfl) (by kernel_rfl) _
theorem r72 (a0 a1 a2 a3 : D) : R 72 [a0, a1, a2, a3] = (den C.G R il72 [a0, a1, a2, a3]).bind outs := Run_at (by kernel_rfl) (by kernel_rfl) _
theorem r73 (a0 : D) : R 73 [a0] = (den C.G R il73 [a0]).bind outs := Run_at (by kernel_rfl) (by kernel_rfl) _
theorem r74 (a0 a1 a2 a3 : D) : R 74 [a0, a1, a2, a3] = (den C.G R il74 [a0, a1, a2, a3]).bind outs := Run_at (by kernel_rfl) (by kernel_rfl) _
theorem r75 (a0 : D) : R 75 [a0] = (den C.G R il75 [a0]).bind outs := Run_at (by kernel_rfl) (by kernel_rfl) _
theorem r76 (a0 : D) : R 76 [a0] = (den C.G R il76 [a0]).bind outs := Run_at (by kernel_rfl) (by kernel_rfl) _
theorem r77 (a0 : D) : R 77 [a0] = (den C.G R il77 [a0]).bind outs := Run_at (by kernel_rfl) (by kernel_rfl) _
theorem r78 (a0 a1 : D) : R 78 [a0, a1] = (den C.G R il78 [a0, a1]).bind outs := Run_at (by kernel_rfl) (by kernel_rfl) _
theorem r79 (a0 a1 : D) : R 79 [a0, a1] = (den C.G R il79 [a0, a1]).bind outs := Run_at (by kernel_rfl) (by kernel_rfl) _
theorem r80 (a0 : D) : R 80 [a0] = (den C.G R il80 [a0]).bind outs := Run_at (by kernel_rfl) (by kernel_rfl) _
theorem r81 (a0 : D) : R 81 [a0] = (den C.G R il81 [a0]).bind outs := Run_at (by kernel_rfl) (by kernel_rfl) _
theorem r82 (a0 : D) : R 82 [a0] = (den C.G R il82 [a0]).bind outs := Run_at (by kernel_rfl) (by kernel_rfl) _
theorem r83 (a0 a1 : D) : R 83 [a0, a1] = (den C.G R il83 [a0, a1]).bind outs := Run_at (by kernel_rfl) (by kernel_rfl) _
theorem r84 (a0 a1 : D) : R 84 [a0, a1] = (den C.G R il84 [a0, a1]).bind outs := Run_at (by kernel_rfl) (by kernel_rfl) _
theorem r85 (a0 a1 : D) : R 85 [a0, a1] = (den C.G R il85 [a0, a1]).bind outs := Run_at (by kernel_rfl) (by kernel_rfl) _
theorem r86 (a0 : D) : R 86 [a0] = (den C.G R il86 [a0]).bind outs := Run_at (by kernel_rfl) (by kernel_rfl) _
theorem r87 (a0 a1 a2 a3 : D) : R 87 [a0, a1, a2, a3] = (den C.G R il87 [a0, a1, a2, a3]).bind outs := Run_at (by kernel_rfl) (by kernel_rfl) _
theorem r88 (a0 a1 a2 a3 a4 : D) : R 88 [a0, a1, a2, a3, a4] = (den C.G R il88 [a0, a1, a2, a3, a4]).bind outs := Run_at (by kernel_rfl) (by kernel_rfl) _
theorem r89 (a0 a1 : D) : R 89 [a0, a1] = (den C.G R il89 [a0, a1]).bind outs := Run_at (by kernel_rfl) (by kernel_rfl) _
theorem r90 (a0 a1 : D) : R 90 [a0, a1] = (den C.G R il90 [a0, a1]).bind outs := Run_at (by kernel_rfl) (by kernel_rfl) _
theorem r91 (a0 a1 : D) : R 91 [a0, a1] = (den C.G R il91 [a0, a1]).bind outs := Run_at (by kernel_rfl) (by kernel_rfl) _
theorem r92 (a0 a1 : D) : R 92 [a0, a1] = (den C.G R il92 [a0, a1]).bind outs := Run_at (by kernel_rfl) (by kernel_rfl) _
theorem r93 (a0 : D) : R 93 [a0] = (den C.G R il93 [a0]).bind outs := Run_at (by kernel_rfl) (by kernel_rfl) _
theorem r95 (a0 : D) : R 95 [a0] = (den C.G R il95 [a0]).bind outs := Run_at (by kernel_rfl) (by kernel_rfl) _
theorem r96 (a0 : D) : R 96 [a0] = (den C.G R il96 [a0]).bind outs := Run_at (by kernel_rfl) (by kernel_rfl) _
theorem r97 (a0 a1 a2 a3 : D) : R 97 [a0, a1, a2, a3] = (den C.G R il97 [a0, a1, a2, a3]).bind outs := Run_at (by kernel_rfl) (by kernel_rfl) _
theorem r98 (a0 a1 : D) : R 98 [a0, a1] = (den C.G R il98 [a0, a1]).bind outs := Run_at (by kernel_rfl) (by kernel_rfl) _
theorem r99 (a0 a1 : D) : R 99 [a0, a1] = (den C.G R il99 [a0, a1]).bind outs := Run_at (by kernel_rfl) (by kernel_rfl) _
theorem r100 (a0 a1 a2 : D) : R 100 [a0, a1, a2] = (den C.G R il100 [a0, a1, a2]).bind outs := Run_at (by kernel_rfl) (by kernel_rfl) _
theorem r101 (a0 a1 : D) : R 101 [a0, a1] = (den C.G R il101 [a0, a1]).bind outs := Run_at (by kernel_rfl) (by kernel_rfl) _
theorem r103 (a0 a1 a2 : D) : R 103 [a0, a1, a2] = (den C.G R il103 [a0, a1, a2]).bind outs := Run_at (by kernel_rfl) (by kernel_rfl) _
theorem r104 (a0 : D) : R 104 [a0] = (den C.G R il104 [a0]).bind outs := Run_at (by kernel_rfl) (by kernel_rfl) _
theorem r105 (a0 a1 : D) : R 105 [a0, a1] = (den C.G R il105 [a0, a1]).bind outs := Run_at (by kernel_rfl) (by kernel_rfl) _
theorem r106 (a0 : D) : R 106 [a0] = (den C.G R il106 [a0]).bind outs := Run_at (by kernel_rfl) (by kernel_rfl) _
theorem r107 (a0 a1 : D) : R 107 [a0, a1] = (den C.G R il107 [a0, a1]).bind outs := Run_at (by kernel_rfl) (by kernel_rfl) _
theorem r94 (ds : List D) : R 94 ds = cmpF ds := Run_pri (by kernel_rfl) _
end Go.Proofs.YtlbckmllpciglaaDoor
