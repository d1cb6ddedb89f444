/- Lists of bytes. -/
import Derived.Test.YtlnomadhgoblkaaOpen
set_option linter.unusedVariables false
set_option linter.unusedSimpArgs false
namespace Go.Proofs.Ytlnomadhgoblkaa.Kit
open Go.RowKit
theorem byt_app {a b : List Int} (h : Byt (a ++ b)) : Byt a ∧ Byt b := ⟨fun z hz => h z (List.mem_append_left _ hz), fun z hz => h z (List.mem_append_right _ hz)⟩
theorem byt_mk {a b : List Int} (h : Byt a) (k : Byt b) : Byt (a ++ b) := fun z hz => by
  rcases List.mem_append.1 hz with hz | hz
  · exact h z hz
  · exact k z hz
theorem byt_drop {a : List Int} (h : Byt a) (n : Nat) : Byt (a.drop n) := fun z hz => h z (List.mem_of_mem_drop hz)
theorem byt_take {a : List Int} (h : Byt a) (n : Nat) : Byt (a.take n) := fun z hz => h z (List.mem_of_mem_take hz)
end Go.Proofs.Ytlnomadhgoblkaa.Kit
