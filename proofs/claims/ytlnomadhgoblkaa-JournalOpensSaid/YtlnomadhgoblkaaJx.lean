/- The journal's laws: right. -/
import Derived.Test.YtlnomadhgoblkaaProg
import Derived.Test.YtlnomadhgoblkaaJw
set_option linter.unusedVariables false
set_option linter.unusedSimpArgs false
namespace Go.Proofs.Ytlnomadhgoblkaa.Kit
open Go.RowKit
/-- may the record be appended? -/
def okRec (x : SecV) : Prop := 1 ≤ x.id ∧ x.id ≤ 255 ∧ x.body.length ≤ 4194304
theorem rightYes {A : Option Addr} {n c : Nat} {x : SecV} {w : World} (hn : n = x.body.length) (h : okRec x) :
    Calls Try.prog 17 #[.agg #[.int .i64 x.id, .slice A n c]] w fun e w' => e = .returned (.bool true) ∧ Chg (fun _ => False) w w' := by
  obtain ⟨h1, h2, h3⟩ := h
  have h4 : (n : Int) ≤ 4194304 := by omega
  have h5 : n ≤ 4194304 := by omega
  clear h3 hn
  go_enter Try.func17, Try.ntmps17
  go_wp2_with fail
  go_ret
  exact ⟨rfl, (Chg.refl _ w).alloc _⟩
theorem rightNo {A : Option Addr} {n c : Nat} {x : SecV} {w : World} (hn : n = x.body.length) (h : ¬ okRec x) :
    Calls Try.prog 17 #[.agg #[.int .i64 x.id, .slice A n c]] w fun e w' => e = .returned (.bool false) ∧ Chg (fun _ => False) w w' := by
  by_cases h1 : 1 ≤ x.id
  · by_cases h2 : x.id ≤ 255
    · have h3 : ¬ n ≤ 4194304 := fun h' => h ⟨h1, h2, by omega⟩
      have h4 : ¬ (n : Int) ≤ 4194304 := by omega
      clear hn h
      go_enter Try.func17, Try.ntmps17
      go_wp2_with fail
      go_ret
      exact ⟨by simp [h4], (Chg.refl _ w).alloc _⟩
    · clear hn h
      go_enter Try.func17, Try.ntmps17
      go_wp2_with fail
      go_ret
      exact ⟨rfl, (Chg.refl _ w).alloc _⟩
  · clear hn h
    go_enter Try.func17, Try.ntmps17
    go_wp2_with fail
    go_ret
    exact ⟨rfl, (Chg.refl _ w).alloc _⟩
end Go.Proofs.Ytlnomadhgoblkaa.Kit
