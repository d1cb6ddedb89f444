/- The reader: Text. -/
import Derived.Test.YtcljbaoadmflgaaProg
import Derived.Test.YtcljbaoadmflgaaKit
import Derived.Test.YtcljbaoadmflgaaOctW
import Derived.Test.YtcljbaoadmflgaaOctR
import Derived.IntWalk
set_option linter.unusedVariables false
set_option linter.unusedSimpArgs false
set_option linter.unnecessarySimpa false
namespace Go.Proofs.Ytcljbaoadmflgaa.Kit
open Go.RowKit
theorem uint' {g : Nat} {v : Value} {l : List Int} {at_ : Nat} {limit : Int} {w : World} {x er : Int} {n : Nat} (hu : Hid (urd (l.drop at_) limit = (x, n, er))) (h : Hid (Rdr w g v l at_)) :
    Calls Try.prog 25 #[.pointer (some ⟨g, 0, none⟩), .int .u64 limit] w fun e w' => e = .returned (.tuple #[.int .u64 x, .int .i64 er]) ∧ Rdr w' g v l (at_ + n) ∧ Chg (· = g) w w' := by
  have := uint g v l at_ limit w h
  unfold RUint at this
  rw [hu.out] at this
  exact this
def RText (g : Nat) (v : Value) (l : List Int) (at_ : Nat) (limit : Int) (w : World) (e : Ending) (w' : World) : Prop :=
  ∃ (s : List Int) (at2 : Nat) (er : Int), e = .returned (.tuple #[.string (strOf s), .int .i64 er]) ∧ Rdr w' g v l at2 ∧ Chg (· = g) w w' ∧
    ((limit < 0 ∧ s = [] ∧ er = 1 ∧ at2 = at_) ∨ (0 ≤ limit ∧ er ≠ 0 ∧ s = [] ∧ at2 = at_ ∧ er = (urd (l.drop at_) limit).2.2) ∨
     (0 ≤ limit ∧ (urd (l.drop at_) limit).2.2 = 0 ∧ (l.length : Int) - (at_ + (urd (l.drop at_) limit).2.1 : Nat) < (urd (l.drop at_) limit).1 ∧ s = [] ∧ er = 41 ∧ at2 = at_) ∨
     (0 ≤ limit ∧ (urd (l.drop at_) limit).2.2 = 0 ∧ (urd (l.drop at_) limit).1 ≤ (l.length : Int) - (at_ + (urd (l.drop at_) limit).2.1 : Nat) ∧ er = 0 ∧
        s = (l.drop (at_ + (urd (l.drop at_) limit).2.1)).take (urd (l.drop at_) limit).1.toNat ∧ at2 = at_ + (urd (l.drop at_) limit).2.1 + (urd (l.drop at_) limit).1.toNat))
theorem text_rd {w1 : World} {g : Nat} {A : Option Addr} {l : List Int} {a2 c p q : Nat} {z : Int} (h : Rdr w1 g (.slice A l.length c) l a2) : Rd (((w1.drewN p).setCell ⟨g, 1, none⟩ (.int .i64 z)).drewN q) .u8 A l :=
  ((h.drewN p).own.chg ((Chg.refl (· = g) _).setg 1 (.int .i64 z)) (fun i hi e => h.ne (by rw [hi, e]))).rd rfl
theorem conv_str (W : World) (A : Option Addr) (m c : Nat) (l : List Int) (hm : m = l.length) (hr : Rd W .u8 A l) : (convert 22 9 (.slice A m c)).run Try.prog W = .ok (.string (strOf l)) W :=
  run_conv_str W 22 9 5 Try.underlying22 Try.underlying5 Try.underlying9 A m c l hm hr
theorem text_len {l : List Int} {a2 k : Nat} (hk : a2 + k ≤ l.length) : (↑a2 + ↑k : Int).toNat - a2 = ((l.drop a2).take k).length := by
  rw [List.length_take, List.length_drop]
  omega
theorem rtext_far {g : Nat} {v : Value} {l : List Int} {at_ n a2 k nq : Nat} {limit : Int} {w w1 : World} (h : Rdr w g v l at_) (hu : urd (l.drop at_) limit = (↑k, n, 0)) (hk : (l.length : Int) - ((at_ + n : Nat) : Int) < k) (h2 : a2 = at_ + n)
    (hr : Rdr w1 g v l a2) (hc : Chg (· = g) w w1) (hn : 0 ≤ limit := by omega) : RText g v l at_ limit w (.returned (.tuple #[.string { data := #[] }, .int .i64 41])) (((w1.drewN nq).setCell ⟨g, 1, none⟩ (.int .i64 at_))) := by
  refine ⟨[], at_, 41, rfl, (hr.drewN nq).move h.le, (hc.drewN nq).setg 1 _, .inr (.inr (.inl ⟨hn, by rw [hu], by rw [hu]; exact hk, rfl, rfl, rfl⟩))⟩
theorem rtext_ok {g : Nat} {v : Value} {l : List Int} {at_ n a2 k p q : Nat} {limit : Int} {w w1 : World} (hn : 0 ≤ limit) (hu : urd (l.drop at_) limit = (↑k, n, 0)) (hk : ¬ (l.length : Int) - ((at_ + n : Nat) : Int) < k) (h2 : a2 = at_ + n)
    (hr : Rdr w1 g v l a2) (hc : Chg (· = g) w w1) : RText g v l at_ limit w (.returned (.tuple #[.string (strOf ((l.drop a2).take k)), .int .i64 0])) ((((w1.drewN p).setCell ⟨g, 1, none⟩ (.int .i64 (↑a2 + ↑k)))).drewN q) := by
  subst h2
  have hz : ((at_ + n : Nat) : Int) + (k : Int) = ((at_ + n + k : Nat) : Int) := by omega
  rw [hz]
  refine ⟨(l.drop (at_ + n)).take k, at_ + n + k, 0, rfl, ((hr.drewN p).move (by omega)).drewN q, ((hc.drewN p).setg 1 _).drewN q, .inr (.inr (.inr ⟨hn, by rw [hu], by rw [hu]; simp only; omega, rfl, by rw [hu]; simp, by rw [hu]; simp⟩))⟩
set_option maxHeartbeats 1600000 in
theorem text (g : Nat) (v : Value) (l : List Int) (at_ : Nat) (limit : Int) (w : World) (hl : limit ≤ 9223372036854775807) (h : Hid (Rdr w g v l at_)) :
    Calls Try.prog 33 #[.pointer (some ⟨g, 0, none⟩), .int .i64 limit] w (RText g v l at_ limit w) := by
  obtain ⟨A, c, rfl, hc, _⟩ := h.out.own.slice
  have h1 := h.out.blk.at_ (i := 1) rfl
  by_cases hn : limit < 0
  · go_enter Try.func33, Try.ntmps33
    go_wp2_with fail
    go_ret2
    exact ⟨[], at_, 1, rfl, h.out, Chg.refl _ _, .inl ⟨hn, rfl, rfl, rfl⟩⟩
  · obtain ⟨x, n, er, hu⟩ : ∃ x n er, urd (l.drop at_) limit = (x, n, er) := ⟨_, _, _, rfl⟩
    have hr := urd_range (l.drop at_) limit
    have hle := urd_le (l.drop at_) limit
    have hne := urd_n (l.drop at_) limit
    have her := urd_er (l.drop at_) limit
    rw [hu] at hr hle hne her
    simp only at hr hle hne her
    have HU := Lib.hid hu
    clear hu
    by_cases he : er = 0
    · subst he
      have hx := hle rfl
      obtain ⟨k, rfl⟩ : ∃ k : Nat, x = k := ⟨x.toNat, by omega⟩
      have hx' := Lib.hid hx
      clear hle hne her hr hx
      by_cases hk : (l.length : Int) - ((at_ + n : Nat) : Int) < k
      · have HK := Lib.hid hk
        clear hk
        go_enter Try.func33, Try.ntmps33
        go_wp2_with (first | (go_at_call 25; go_must (refine (uint' HU h).mono ?_); rintro e w1 ⟨rfl, hr, hcg⟩; have HC := Lib.hid hcg; clear hcg; obtain ⟨a2, ha2⟩ : ∃ a2, a2 = at_ + n := ⟨_, rfl⟩; rw [← ha2] at hr; have H2 := Lib.hid ha2; clear ha2; have HR := Lib.hid hr; clear hr; have g1 := HR.out.blk.at_ (i := 1) rfl; have gf := HR.out.blk.frozen (i := 1) (by simp); have b1 : (a2 : Int) ≤ (l.length : Int) := (by have := HR.out.le; omega); have b2 : (l.length : Int) ≤ 140737488355328 := (by have := HR.out.bound; omega); have b3 : (l.length : Int) - (a2 : Int) < (k : Int) := (by have := H2.out; have := HK.out; omega)) | (go_at_call 28; refine (left g _ l _ _ HR).mono ?_; rintro e w' ⟨rfl, nq, rfl⟩))
        go_ret2
        exact rtext_far h.out HU.out HK.out H2.out HR.out HC.out
      · have HK := Lib.hid hk
        clear hk
        have hn0 := h.out.le
        by_cases hca : c = at_ + n
        · have HCA := Lib.hid hca
          clear hca
          go_enter Try.func33, Try.ntmps33
          go_wp2_with (first | (go_at_call 25; go_must (refine (uint' HU h).mono ?_); rintro e w1 ⟨rfl, hr, hcg⟩; have HC := Lib.hid hcg; clear hcg; obtain ⟨a2, ha2⟩ : ∃ a2, a2 = at_ + n := ⟨_, rfl⟩; rw [← ha2] at hr; have H2 := Lib.hid ha2; clear ha2; have HR := Lib.hid hr; clear hr; have g1 := HR.out.blk.at_ (i := 1) rfl; have gf := HR.out.blk.frozen (i := 1) (by simp); have b1 : (a2 : Int) ≤ (l.length : Int) := (by have := HR.out.le; omega); have b2 : (l.length : Int) ≤ 140737488355328 := (by have := HR.out.bound; omega); have b3 : (k : Int) ≤ (l.length : Int) - (a2 : Int) := (by have := H2.out; have := HK.out; omega); have F0 : ∀ nq, ((w1.drewN nq).setCell ⟨g, 1, none⟩ (.int .i64 (↑a2 + ↑k))).cell? ⟨g, 0, none⟩ = some (.slice A l.length c) := (fun nq => ((HR.out.blk.drewN nq).set 1 _).at_ (i := 0) rfl); have F1 : ∀ nq, ((w1.drewN nq).setCell ⟨g, 1, none⟩ (.int .i64 (↑a2 + ↑k))).cell? ⟨g, 1, none⟩ = some (.int .i64 (↑a2 + ↑k)) := (fun nq => ((HR.out.blk.drewN nq).set 1 _).at_ (i := 1) rfl); have d1 : (0 : Int) ≤ (a2 : Int) := (by omega); have d2 : (a2 : Int) ≤ (a2 : Int) + (k : Int) := (by omega); have d3 : (a2 : Int) + (k : Int) ≤ (c : Int) := (by omega); have E1 : IntKind.i64.wrap (a2 : Int) = (a2 : Int) := (IntWalk.i64_in _ (by omega)); have E2 : IntKind.i64.wrap (k : Int) = (k : Int) := (IntWalk.i64_in _ (by omega)); have hca : c = a2 := (by have := H2.out; have := HCA.out; omega); subst hca; have HCV : ∀ p q, (convert 22 9 (.slice A 0 0)).run Try.prog (((w1.drewN p).setCell ⟨g, 1, none⟩ (.int .i64 (↑c + ↑k))).drewN q) = .ok (.string (strOf ((l.drop c).take k))) (((w1.drewN p).setCell ⟨g, 1, none⟩ (.int .i64 (↑c + ↑k))).drewN q) := (by rw [show (l.drop c).take k = [] from List.eq_nil_of_length_eq_zero (by simp; omega)]; exact fun p q => conv_str _ _ _ _ _ rfl (Rd.nil _ _ _))) | (go_at_call 28; refine (left g _ l _ _ HR).mono ?_; rintro e w' ⟨rfl, nq, rfl⟩))
          all_goals go_quiet (fail)
          go_wp2
          go_ret2
          exact rtext_ok (by omega) HU.out (by have := HK.out; omega) H2.out HR.out HC.out
        · have HCA := Lib.hid hca
          clear hca
          go_enter Try.func33, Try.ntmps33
          go_wp2_with (first | (go_at_call 25; go_must (refine (uint' HU h).mono ?_); rintro e w1 ⟨rfl, hr, hcg⟩; have HC := Lib.hid hcg; clear hcg; obtain ⟨a2, ha2⟩ : ∃ a2, a2 = at_ + n := ⟨_, rfl⟩; rw [← ha2] at hr; have H2 := Lib.hid ha2; clear ha2; have HR := Lib.hid hr; clear hr; have g1 := HR.out.blk.at_ (i := 1) rfl; have gf := HR.out.blk.frozen (i := 1) (by simp); have b1 : (a2 : Int) ≤ (l.length : Int) := (by have := HR.out.le; omega); have b2 : (l.length : Int) ≤ 140737488355328 := (by have := HR.out.bound; omega); have b3 : (k : Int) ≤ (l.length : Int) - (a2 : Int) := (by have := H2.out; have := HK.out; omega); have F0 : ∀ nq, ((w1.drewN nq).setCell ⟨g, 1, none⟩ (.int .i64 (↑a2 + ↑k))).cell? ⟨g, 0, none⟩ = some (.slice A l.length c) := (fun nq => ((HR.out.blk.drewN nq).set 1 _).at_ (i := 0) rfl); have F1 : ∀ nq, ((w1.drewN nq).setCell ⟨g, 1, none⟩ (.int .i64 (↑a2 + ↑k))).cell? ⟨g, 1, none⟩ = some (.int .i64 (↑a2 + ↑k)) := (fun nq => ((HR.out.blk.drewN nq).set 1 _).at_ (i := 1) rfl); have d1 : (0 : Int) ≤ (a2 : Int) := (by omega); have d2 : (a2 : Int) ≤ (a2 : Int) + (k : Int) := (by omega); have d3 : (a2 : Int) + (k : Int) ≤ (c : Int) := (by omega); have E1 : IntKind.i64.wrap (a2 : Int) = (a2 : Int) := (IntWalk.i64_in _ (by omega)); have E2 : IntKind.i64.wrap (k : Int) = (k : Int) := (IntWalk.i64_in _ (by omega)); have hca : ¬ c = a2 := (by have := H2.out; have := HCA.out; omega); have HCV : ∀ p q, (convert 22 9 (.slice (Option.map (fun x => x.add a2) A) ((↑a2 + ↑k : Int).toNat - a2) (c - a2))).run Try.prog (((w1.drewN p).setCell ⟨g, 1, none⟩ (.int .i64 (↑a2 + ↑k))).drewN q) = .ok (.string (strOf ((l.drop a2).take k))) (((w1.drewN p).setCell ⟨g, 1, none⟩ (.int .i64 (↑a2 + ↑k))).drewN q) := (fun p q => conv_str _ _ _ _ _ (text_len (by omega)) ((rd_from (text_rd HR.out) a2).take k))) | (go_at_call 28; refine (left g _ l _ _ HR).mono ?_; rintro e w' ⟨rfl, nq, rfl⟩))
          all_goals go_quiet (fail)
          go_wp2
          go_ret2
          exact rtext_ok (by omega) HU.out (by have := HK.out; omega) H2.out HR.out HC.out
    · have he' : (er == 0) = false := by simp [he]
      have he'' : (er != 0) = true := by simp [he]
      have hz := hne he
      simp only [Prod.mk.injEq] at hz
      obtain ⟨rfl, rfl, _⟩ := hz
      clear hle hne her hr
      have HE := Lib.hid he
      clear he
      go_enter Try.func33, Try.ntmps33
      go_wp2_with (first | (go_at_call 25; go_must (refine (uint' HU h).mono ?_); rintro e w1 ⟨rfl, hr, hcg⟩; have HC := Lib.hid hcg; have HR := Lib.hid hr; clear hcg hr))
      go_ret2
      exact ⟨[], at_, er, rfl, HR.out, HC.out, .inr (.inl ⟨by omega, HE.out, rfl, rfl, by rw [HU.out]⟩)⟩
end Go.Proofs.Ytcljbaoadmflgaa.Kit
