/- All of the library's calls that the seat's functions come to. -/
import Derived.Test.YtimbkhphcnehmaaStX
set_option linter.unusedVariables false
set_option linter.unusedSimpArgs false
set_option maxRecDepth 100000
namespace Go.Proofs.Ytimbkhphcnehmaa.A
open Go Go.RowKit
theorem ext_ok : ∀ f g args d h h', E.ext f = some g → g args h = some (d, h') → ((E.mode f).pass = true ∨ h = []) → CallOK E.P f args h (E.mode f).fix d h' := by
  intro f g args d h h' hx hg _
  have hx : (if f = 48 then some cmpX else if f = 40 then some insX else if f = 15 then some cloX else if f = 41 then some cutX else none) = some g := hx
  split at hx
  · rename_i hf; subst hf; cases hx; exact ok_cmp hg
  · split at hx
    · rename_i hf; subst hf; cases hx; exact ok_ins hg
    · split at hx
      · rename_i hf; subst hf; cases hx; exact ok_clo hg
      · split at hx
        · rename_i hf; subst hf; cases hx; exact ok_cut hg
        · cases hx
end Go.Proofs.Ytimbkhphcnehmaa.A
