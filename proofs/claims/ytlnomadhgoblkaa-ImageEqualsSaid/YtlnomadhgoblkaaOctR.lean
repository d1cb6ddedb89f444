/- The reader: NewReader, Place, Left, Uint. -/
import Derived.Test.YtlnomadhgoblkaaProg
import Derived.Test.YtlnomadhgoblkaaKit
import Derived.Test.YtlnomadhgoblkaaOctW
import Derived.Test.YtlnomadhgoblkaaVlp
import Derived.Deep.RegionHeld3
set_option linter.unusedVariables false
set_option linter.unusedSimpArgs false
set_option linter.unnecessarySimpa false
namespace Go.Proofs.Ytlnomadhgoblkaa.Kit
open Go.RowKit
theorem min2_int (k k' : IntKind) (x y : Int) : Builtin.min2 (.int k x) (.int k' y) = pure (.int k (min x y)) := by
  simp only [Builtin.min2]; congr 1; congr 1; omega
theorem min_two (ats : Array TypeId) (ty : TypeId) (a b : Value) : Builtin.min_ ats ty #[a, b] = (Builtin.min2 a b >>= fun s => pure s) := by simp only [Builtin.min_, List.foldlM_cons, List.foldlM_nil]
theorem ret3 {w : World} {p : Int × Int × Int} {a b c : Int} (h : p = (a, b, c)) : Ending.returned (.tuple #[.int .u64 a, .int .i64 b, .int .i64 c]) = Ending.returned (.tuple #[.int .u64 p.1, .int .i64 p.2.1, .int .i64 p.2.2]) ∧ w = w := by rw [h]; exact ⟨rfl, rfl⟩
attribute [local go_sem] min2_int min_two
set_option maxHeartbeats 400000 in
theorem varint (A : Option Addr) (c : Nat) (l : List Int) (w : World) (hl : l.length ≤ 140737488355328) (hr : Rd w .u8 A l) :
    Calls Try.prog 88 #[.slice A l.length c] w fun e w' => e = .returned (.tuple #[.int .u64 (vlp l 10 0 0).1, .int .i64 (vlp l 10 0 0).2.1, .int .i64 (vlp l 10 0 0).2.2]) ∧ w = w' := by
  have HR := Lib.hid hr
  clear hr
  go_enter Try.func88, Try.ntmps88
  go_wp2
  go_loop [5, 10] (fun x i => ∃ k : Nat, k ≤ l.length ∧ k ≤ 10 ∧ i = .int .i64 k ∧ ∃ y, x = .int .u64 y ∧ Hid (vlp l 10 0 0 = vlp l (10 - k) k y)) (fun _ i => 10 - (intOf i).toNat)
  case atStart => exact ⟨0, by omega, by omega, rfl, 0, rfl, rfl⟩
  case round =>
    obtain ⟨k, hk, hk2, rfl, y, rfl, hv⟩ := hrel
    by_cases hlt : k < l.length ∧ k < 10
    · obtain ⟨h1, h2⟩ := hlt
      obtain ⟨ad, rfl, hcx⟩ := HR.out k h1
      by_cases h9 : k = 9
      · subst h9
        rw [show ad.add 9 = ⟨ad.block, ad.off + 9, none⟩ from rfl] at hcx
        by_cases h0 : 127 < l[9]
        · go_wp2
          go_round
          case rel => exact ⟨10, by omega, by omega, by go_num, _, rfl, hv.out.trans (vlp_more h1 h2 h0)⟩
          case measure => simp [intOf]
        · by_cases hz : l[9] = 0
          · have hz' : (l[9] == 0) = true := by simp [hz]
            go_wp2
            go_ret3
            rw [hv.out]
            exact ret3 (vlp_bad h1 h2 (by omega) (by omega))
          · have hz' : (l[9] == 0) = false := by simp [hz]
            by_cases ho : 1 < l[9]
            · go_wp2
              go_ret3
              rw [hv.out]
              exact ret3 (vlp_bad h1 h2 (by omega) (by omega))
            · go_wp2
              go_ret3
              rw [hv.out]
              exact ret3 (vlp_good h1 h2 (by omega) (by omega))
      · go_wp2
        · have h := ‹127 < l[k]›
          go_round
          case rel => exact ⟨k + 1, by omega, by omega, by go_num, _, rfl, hv.out.trans (vlp_more h1 h2 h)⟩
          case measure => simp [intOf]; omega
        · have h := ‹l[k] ≤ 127›
          go_ret3
          rw [hv.out]
          exact ret3 (vlp_bad h1 h2 h (.inl ⟨by omega, by assumption⟩))
        · have h := ‹l[k] ≤ 127›
          go_ret3
          rw [hv.out]
          exact ret3 (vlp_good h1 h2 h (by omega))
        · have h := ‹l[k] ≤ 127›
          go_ret3
          rw [hv.out]
          exact ret3 (vlp_good h1 h2 h (by omega))
    · go_wp2
      · go_ret3
        rw [hv.out]
        exact ret3 ((vlp_end hk hlt).trans (if_pos (by omega)))
      · go_ret3
        rw [hv.out]
        exact ret3 ((vlp_end hk hlt).trans (if_neg (by omega)))
/-- a reader of l, at at_, in block g; its bytes lie in v -/
structure Rdr (w : World) (g : Nat) (v : Value) (l : List Int) (at_ : Nat) : Prop where
  blk : Blk w g 148 [v, .int .i64 at_]
  own : OwnB w v l
  le : at_ ≤ l.length
  bound : l.length ≤ 140737488355328
namespace Rdr
variable {w w1 : World} {g : Nat} {v : Value} {l : List Int} {at_ : Nat}
theorem ne (h : Rdr w g v l at_) : v.ownBlock ≠ some g := OwnV.type_ne h.own h.blk (by decide)
theorem chg {S : Nat → Prop} (h : Rdr w g v l at_) (c : Chg S w w1) (hg : ¬ S g) (hv : ∀ k, v.ownBlock = some k → ¬ S k) : Rdr w1 g v l at_ := ⟨h.blk.chg c hg, h.own.chg c hv, h.le, h.bound⟩
theorem drewN (h : Rdr w g v l at_) (n : Nat) : Rdr (w.drewN n) g v l at_ := ⟨h.blk, h.own, h.le, h.bound⟩
theorem move (h : Rdr w g v l at_) {n : Nat} (hn : n ≤ l.length) : Rdr (w.setCell ⟨g, 1, none⟩ (.int .i64 n)) g v l n :=
  ⟨h.blk.set 1 _, h.own.chg ((Chg.refl (· = g) w).setCell (p := ⟨g, 1, none⟩) (fun _ => rfl) _) (fun k hk e => h.ne (by rw [hk, e])), hn, h.bound⟩
end Rdr
set_option maxHeartbeats 400000 in
theorem newReader (A : Option Addr) (c : Nat) (l : List Int) (w : World) (hl : l.length ≤ 140737488355328) (hr : Hid (Rd w .u8 A l)) :
    Calls Try.prog 74 #[.slice A l.length c] w fun e w' => ∃ g v, e = .returned (.pointer (some ⟨g, 0, none⟩)) ∧ Rdr w' g v l 0 ∧ w.heap.size ≤ g ∧ (∀ k, v.ownBlock = some k → w.heap.size ≤ k) ∧ Chg (fun _ => False) w w' := by
  go_enter Try.func74, Try.ntmps74
  go_wp2_with (at_builtin; go_must (refine wp_appn rfl _ _ 29 5 .u8 1 rfl Try.underlying29 infoU8 (by decide) (.slice (some ⟨w.heap.size, 0, none⟩) 0 0) [] rfl (Own.lit w 5 .u8 [] (by simp)) A c l _ rfl rfl (hr.out.below ((Chg.refl (fun _ => False) w).alloc _ |>.below (Nat.le_refl _) (fun _ h => h.elim))) (by simp; omega) ?_); intro v' w1 k1 k2 k3 k4; obtain ⟨A1, c1, rfl, _, _⟩ := k1.slice; have K1 := Lib.hid k1; have K3 := Lib.hid k3; have K4 := Lib.hid k4; clear k1 k2 k3 k4)
  go_ret
  have hc : Chg (fun _ => False) w (w1.alloc (.cells #[.slice A1 ([] ++ l).length c1, .int .i64 0] 148)) := (((Chg.refl _ w).alloc _).trans K3.out (fun i hi e => by
    simp [Value.ownBlock] at e
    omega)).alloc _
  refine ⟨w1.heap.size, .slice A1 l.length c1, rfl, ⟨Blk.new w1 _ _, (K1.out.alloc _), Nat.zero_le _, hl⟩, ?_, ?_, hc⟩
  · have := K3.out.size
    simp at this
    omega
  · intro k hk
    rcases K4.out with h | h
    · have h1 := h.symm.trans (show Value.ownBlock (.slice A1 ([] ++ l).length c1) = some k from hk)
      simp [Value.ownBlock] at h1
      omega
    · have := h k hk
      simp at this
      omega
theorem place (g : Nat) (v : Value) (l : List Int) (at_ : Nat) (w : World) (h : Hid (Rdr w g v l at_)) :
    Calls Try.prog 76 #[.pointer (some ⟨g, 0, none⟩)] w fun e w' => e = .returned (.int .i64 at_) ∧ w = w' := by
  have h1 := h.out.blk.at_ (i := 1) rfl
  go_enter Try.func76, Try.ntmps76
  go_wp2
  go_ret
  exact ⟨rfl, rfl⟩
theorem varint' (A : Option Addr) (c : Nat) (m : Nat) (l : List Int) (w : World) (hm : m = l.length) (hl : l.length ≤ 140737488355328) (hr : Hid (Rd w .u8 A l)) {x n er : Int} (h : Hid (vlp l 10 0 0 = (x, n, er))) :
    Calls Try.prog 88 #[.slice A m c] w fun e w' => e = .returned (.tuple #[.int .u64 x, .int .i64 n, .int .i64 er]) ∧ w = w' := by
  subst hm
  have := varint A c l w hl hr
  rw [h.out] at this
  exact this
/-- what a call on a reader leaves: the answer, the place -/
def RUint (g : Nat) (v : Value) (l : List Int) (at_ : Nat) (limit : Int) (w : World) (e : Ending) (w' : World) : Prop :=
  e = .returned (.tuple #[.int .u64 (urd (l.drop at_) limit).1, .int .i64 (urd (l.drop at_) limit).2.2]) ∧ Rdr w' g v l (at_ + (urd (l.drop at_) limit).2.1) ∧ Chg (· = g) w w'
theorem ruint_ok {g : Nat} {v : Value} {l : List Int} {at_ : Nat} {limit x n z : Int} {w : World} {k : Nat} (h : Rdr w g v l at_) (hu : urd (l.drop at_) limit = (x, n.toNat, 0)) (h1 : 1 ≤ n) (hn : n ≤ (l.drop at_).length) (hz : z = at_ + n) :
    RUint g v l at_ limit w (.returned (.tuple #[.int .u64 x, .int .i64 0])) ((w.setCell ⟨g, 1, none⟩ (.int .i64 z)).drewN k) := by
  have e : z = ((at_ + n.toNat : Nat) : Int) := by omega
  have hl : at_ + n.toNat ≤ l.length := by simp at hn; omega
  subst e
  unfold RUint
  rw [hu]
  exact ⟨rfl, (h.move hl).drewN k, ((Chg.refl (· = g) w).setCell (p := ⟨g, 1, none⟩) (fun _ => rfl) _).drewN k⟩
theorem ruint_no {g : Nat} {v : Value} {l : List Int} {at_ : Nat} {limit er : Int} {w : World} {k : Nat} (h : Rdr w g v l at_) (hu : urd (l.drop at_) limit = (0, 0, er)) :
    RUint g v l at_ limit w (.returned (.tuple #[.int .u64 0, .int .i64 er])) (w.drewN k) := by
  unfold RUint
  rw [hu]
  exact ⟨rfl, h.drewN k, (Chg.refl _ w).drewN k⟩
theorem rd_from {w : World} {k : IntKind} {A : Option Addr} {l : List Int} (h : Rd w k A l) (n : Nat) : Rd w k (A.map (·.add n)) (l.drop n) := by
  rcases A with _ | ad
  · intro i hi
    obtain ⟨ad, he, _⟩ := h (n + i) (by simp at hi; omega)
    cases he
  · exact h.drop rfl n
set_option maxHeartbeats 1600000 in
theorem uint (g : Nat) (v : Value) (l : List Int) (at_ : Nat) (limit : Int) (w : World) (h : Hid (Rdr w g v l at_)) :
    Calls Try.prog 75 #[.pointer (some ⟨g, 0, none⟩), .int .u64 limit] w (RUint g v l at_ limit w) := by
  obtain ⟨A, c, rfl, hc, _⟩ := h.out.own.slice
  have h0 := h.out.blk.at_ (i := 0) rfl
  have h1 := h.out.blk.at_ (i := 1) rfl
  have hf := h.out.blk.frozen (i := 1) (by simp)
  have h2 := h.out.le
  have h3 := h.out.bound
  have hrd := Lib.hid (h.out.own.rd rfl)
  have HD : Hid ((l.drop at_).length = l.length - at_) := List.length_drop
  have hdl : (l.drop at_).length ≤ 140737488355328 := by rw [HD.out]; omega
  have c1 : (0 : Int) ≤ (at_ : Int) := by omega
  have c2 : (at_ : Int) ≤ (l.length : Int) := by omega
  have c3 : (l.length : Int) ≤ (c : Int) := by omega
  by_cases hca : c = at_
  · have hrd2 : Hid (Rd w .u8 A (l.drop at_)) := by
      rw [show l.drop at_ = [] from List.drop_eq_nil_of_le (by omega)]
      exact Rd.nil _ _ _
    subst hca
    obtain ⟨x, n, er, hv⟩ : ∃ x n er, vlp (l.drop c) 10 0 0 = (x, n, er) := ⟨_, _, _, rfl⟩
    have he : er = 41 := by
      rw [show l.drop c = [] from List.drop_eq_nil_of_le (by omega)] at hv
      simp [vlp] at hv
      omega
    have hu : urd (l.drop c) limit = (0, 0, 41) := by unfold urd; rw [hv, he]; simp
    subst he
    have HV := Lib.hid hv
    have HU := Lib.hid hu
    clear hv hu
    go_enter Try.func75, Try.ntmps75
    go_wp2_with fail
    go_quiet ((go_at_call 88; go_must (refine Calls.quiet_of_same ((varint' _ _ _ (l.drop c) _ (by rw [HD.out]; omega) hdl (show Hid (Rd (w.drewN _) _ _ _) from hrd2) HV).mono fun _ _ h => ⟨h.1, h.2.symm⟩))))
    go_wp2
    go_ret2
    exact ruint_no h.out HU.out
  · have hrd2 : Hid (Rd w .u8 (A.map (·.add at_)) (l.drop at_)) := rd_from hrd.out at_
    rcases urd_cases (l.drop at_) limit with ⟨x, n, hv, hx, hn1, hn2, hn3, hu⟩ | ⟨x, n, hv, hx, hn1, hn2, hu⟩ | ⟨x, n, er, hv, hn1, hu⟩
    · have HV := Lib.hid hv
      have HU := Lib.hid hu
      clear hv hu
      go_enter Try.func75, Try.ntmps75
      go_wp2_with fail
      go_quiet ((go_at_call 88; go_must (refine Calls.quiet_of_same ((varint' _ _ _ (l.drop at_) _ HD.out.symm hdl (show Hid (Rd (w.drewN _) _ _ _) from hrd2) HV).mono fun _ _ h => ⟨h.1, h.2.symm⟩))))
      go_wp2
      go_ret2
      exact ruint_ok h.out HU.out hn1 hn3 rfl
    · have HV := Lib.hid hv
      have HU := Lib.hid hu
      clear hv hu
      go_enter Try.func75, Try.ntmps75
      go_wp2_with fail
      go_quiet ((go_at_call 88; go_must (refine Calls.quiet_of_same ((varint' _ _ _ (l.drop at_) _ HD.out.symm hdl (show Hid (Rd (w.drewN _) _ _ _) from hrd2) HV).mono fun _ _ h => ⟨h.1, h.2.symm⟩))))
      go_wp2
      go_ret2
      exact ruint_no h.out HU.out
    · have HV := Lib.hid hv
      have HU := Lib.hid hu
      clear hv hu
      have he : (er == 0) = false := by rcases hn1 with rfl | rfl <;> rfl
      have he' : (er != 0) = true := by rcases hn1 with rfl | rfl <;> rfl
      clear hn1
      go_enter Try.func75, Try.ntmps75
      go_wp2_with fail
      go_quiet ((go_at_call 88; go_must (refine Calls.quiet_of_same ((varint' _ _ _ (l.drop at_) _ HD.out.symm hdl (show Hid (Rd (w.drewN _) _ _ _) from hrd2) HV).mono fun _ _ h => ⟨h.1, h.2.symm⟩))))
      go_wp2
      go_ret2
      exact ruint_no h.out HU.out
end Go.Proofs.Ytlnomadhgoblkaa.Kit
