/- The framework. -/
import Derived.Test.YtlbckmllpciglaaDoorF7
set_option linter.unusedVariables false
set_option linter.unusedSimpArgs false
set_option linter.all false
