/- The document's reader: Text. -/
import Derived.Test.YtcljbaoadmflgaaProg
import Derived.Test.YtcljbaoadmflgaaOctRi
set_option linter.unusedVariables false
set_option linter.unusedSimpArgs false
namespace Go.Proofs.Ytcljbaoadmflgaa.Kit
open Go.RowKit
def RTextF (g : Nat) (v : Value) (l : List Int) (at_ : Nat) (limit : Int) (w : World) (e : Ending) (w' : World) : Prop :=
  ∃ (s : List Int) (at2 : Nat) (er : Int), e = .returned (.tuple #[.string (strOf s), .int .i64 er]) ∧ RdrF w' g v l at2 ∧ Chg (· = g) w w' ∧
    ((limit < 0 ∧ s = [] ∧ er = 1 ∧ at2 = at_) ∨ (0 ≤ limit ∧ er ≠ 0 ∧ s = [] ∧ at2 = at_ ∧ er = (urd (l.drop at_) limit).2.2) ∨
     (0 ≤ limit ∧ (urd (l.drop at_) limit).2.2 = 0 ∧ (l.length : Int) - (at_ + (urd (l.drop at_) limit).2.1 : Nat) < (urd (l.drop at_) limit).1 ∧ s = [] ∧ er = 41 ∧ at2 = at_) ∨
     (0 ≤ limit ∧ (urd (l.drop at_) limit).2.2 = 0 ∧ (urd (l.drop at_) limit).1 ≤ (l.length : Int) - (at_ + (urd (l.drop at_) limit).2.1 : Nat) ∧ er = 0 ∧
        s = (l.drop (at_ + (urd (l.drop at_) limit).2.1)).take (urd (l.drop at_) limit).1.toNat ∧ at2 = at_ + (urd (l.drop at_) limit).2.1 + (urd (l.drop at_) limit).1.toNat))
theorem textF_rd {w1 : World} {g : Nat} {A : Option Addr} {l : List Int} {a2 at_ c q k : Nat} {z : Int} (h : RdrF w1 g (.slice A l.length c) l at_) : Rd ((w1.drewN q).setCell ⟨g, 1, none⟩ (.int .i64 z)) .u8 (A.map (·.add a2)) ((l.drop a2).take k) :=
  (rd_from (((h.drewN q).own.chg ((Chg.refl (· = g) _).setg 1 (.int .i64 z)) (fun i hi e => h.ne (by rw [hi, e]))).rd rfl) a2).take k
theorem textF_len {l : List Int} {a2 k : Nat} (hk : (k : Int) ≤ (l.length : Int) - (a2 : Nat)) (h2 : a2 ≤ l.length) : k = ((l.drop a2).take k).length := by
  rw [List.length_take, List.length_drop]
  omega
theorem textF_ok {g : Nat} {v : Value} {l : List Int} {at_ n k q : Nat} {limit : Int} {w w1 : World} (hn : 0 ≤ limit) (hu : urd (l.drop at_) limit = (↑k, n, 0)) (hk : (k : Int) ≤ (l.length : Int) - ((at_ + n : Nat) : Int)) (hF : RdrF w1 g v l at_) (hc : Chg (fun _ => False) w w1) :
    RTextF g v l at_ limit w (.returned (.tuple #[.string (strOf ((l.drop (at_ + n)).take k)), .int .i64 0])) ((w1.drewN q).setCell ⟨g, 1, none⟩ (.int .i64 (↑at_ + ↑n + ↑k))) := by
  have hz : ((at_ : Int) + n + k) = ((at_ + n + k : Nat) : Int) := by omega
  rw [hz]
  refine ⟨(l.drop (at_ + n)).take k, at_ + n + k, 0, rfl, (hF.drewN q).move (by omega), ((hc.mono (fun _ _ h => h.elim)).drewN q).setg 1 _, .inr (.inr (.inr ⟨hn, by rw [hu], by rw [hu]; exact hk, rfl, by rw [hu]; simp, by rw [hu]; simp⟩))⟩
theorem textF_ok0 {g : Nat} {v : Value} {l : List Int} {at_ n a2 q : Nat} {limit : Int} {w w1 : World} (hn : 0 ≤ limit) (hu : urd (l.drop at_) limit = (((0 : Nat) : Int), n, 0)) (hk : ((0 : Nat) : Int) ≤ (l.length : Int) - ((at_ + n : Nat) : Int)) (h2 : a2 = at_ + n) (hF : RdrF w1 g v l at_) (hc : Chg (fun _ => False) w w1) :
    RTextF g v l at_ limit w (.returned (.tuple #[.string (strOf []), .int .i64 0])) ((w1.drewN q).setCell ⟨g, 1, none⟩ (.int .i64 (↑a2))) := by
  have := textF_ok (k := 0) (q := q) hn hu hk hF hc
  rw [List.take_zero] at this
  rw [show ((a2 : Nat) : Int) = ↑at_ + ↑n + ((0 : Nat) : Int) by omega]
  exact this
theorem textF_far {g : Nat} {v : Value} {l : List Int} {at_ n k q : Nat} {limit : Int} {w w1 : World} (hn : 0 ≤ limit) (hu : urd (l.drop at_) limit = (↑k, n, 0)) (hk : (l.length : Int) - ((at_ + n : Nat) : Int) < k) (hF : RdrF w1 g v l at_) (hc : Chg (fun _ => False) w w1) :
    RTextF g v l at_ limit w (.returned (.tuple #[.string { data := #[] }, .int .i64 41])) (w1.drewN q) :=
  ⟨[], at_, 41, rfl, hF.drewN q, (hc.mono (fun _ _ h => h.elim)).drewN q, .inr (.inr (.inl ⟨hn, by rw [hu], by rw [hu]; exact hk, rfl, rfl, rfl⟩))⟩
set_option maxRecDepth 20000 in
set_option maxHeartbeats 1600000 in
theorem textF (g : Nat) (v : Value) (l : List Int) (at_ : Nat) (limit : Int) (w : World) (hlim : limit ≤ 9223372036854775807) (hb : Hid (Byt l)) (h : Hid (RdrF w g v l at_)) :
    Calls Try.prog 57 #[.pointer (some ⟨g, 0, none⟩), .int .i64 limit] w (RTextF g v l at_ limit w) := by
  by_cases hn : limit < 0
  · go_enter Try.func57, Try.ntmps57
    go_wp2_with fail
    go_ret2
    exact ⟨[], at_, 1, rfl, h.out, Chg.refl _ _, .inl ⟨hn, rfl, rfl, rfl⟩⟩
  obtain ⟨A, c, rfl, hc, _⟩ := h.out.own.slice
  have h0 := h.out.blk.at_ (i := 0) rfl
  have h1 := h.out.blk.at_ (i := 1) rfl
  have h2 := h.out.le
  have h3 := h.out.bound
  have c1 : (0 : Int) ≤ (at_ : Int) := by omega
  have c2 : (at_ : Int) ≤ (l.length : Int) := by omega
  have c3 : (l.length : Int) ≤ (c : Int) := by omega
  have EL : IntKind.u64.wrap limit = limit := IntWalk.u64_in _ (by omega)
  have hrd := Lib.hid (h.out.own.rd rfl)
  have HB : Hid (Byt (l.drop at_)) := fun z hz => hb.out z (List.mem_of_mem_drop hz)
  have HLE : Hid ((l.drop at_).length ≤ 140737488355328) := by rw [Hid, List.length_drop]; omega
  have HD : Hid (l.length - at_ = (l.drop at_).length) := by rw [Hid, List.length_drop]
  obtain ⟨x, n, er, hu⟩ : ∃ x n er, urd (l.drop at_) limit = (x, n, er) := ⟨_, _, _, rfl⟩
  have HU := Lib.hid hu
  have hnl := urd_nle (l.drop at_) limit
  have hrg := urd_range (l.drop at_) limit
  have hle := urd_le (l.drop at_) limit
  rw [hu] at hnl hrg hle
  simp only [List.length_drop] at hnl hrg hle
  by_cases he : er = 0
  · subst he
    have hx := hle rfl
    have hn1 : 1 ≤ n := by
      have := (urd_form (limit := limit) HB.out (by rw [hu])).2.2.2.1
      exact this
    have hca : ¬ c = at_ := by omega
    clear hu hle
    obtain ⟨k, rfl⟩ : ∃ k : Nat, x = k := ⟨x.toNat, by omega⟩
    have HR : Hid (∀ W, Chg (fun _ => False) w W → Rd W .u8 (A.map (·.add at_)) (l.drop at_)) := fun W hW => rd_from (hrd.out.chg hW (fun _ _ _ => id)) at_
    have hn2 : Hid (n ≤ l.length - at_) := hnl
    have E1 : IntKind.i64.wrap ((at_ : Int) + (n : Int)) = (at_ : Int) + (n : Int) := IntWalk.i64_in _ (by omega)
    have E3 : IntKind.i64.wrap (k : Int) = (k : Int) := IntWalk.i64_in _ (by omega)
    have d1 : (0 : Int) ≤ (at_ : Int) + (n : Int) := by omega
    have d2 : (at_ : Int) + (n : Int) ≤ (l.length : Int) := by omega
    have d3 : (at_ : Int) + (n : Int) ≤ (c : Int) := by omega
    have hf1 : Hid (∀ W, Chg (fun _ => False) w W → W.frozen? ⟨g, 1, none⟩ = false) := fun W hW => (h.out.blk.chg hW id).frozen (i := 1) (by simp)
    have HX := Lib.hid hx
    clear hx
    by_cases hk : (l.length : Int) - ((at_ + n : Nat) : Int) < k
    · by_cases hcb : c = at_ + n
      · have HCB := Lib.hid hcb
        obtain ⟨a2, ha2⟩ : ∃ a2 : Nat, a2 = at_ + n := ⟨_, rfl⟩
        have HA2 := Lib.hid ha2
        have EA : (at_ : Int) + (n : Int) = (a2 : Int) := by omega
        have hca2 : c = a2 := by omega
        have e1 : (0 : Int) ≤ (a2 : Int) := by omega
        have e2 : (a2 : Int) ≤ (l.length : Int) := by omega
        have E4 : IntKind.i64.wrap (a2 : Int) = (a2 : Int) := IntWalk.i64_in _ (by omega)
        have HK := Lib.hid hk
        have d6 : 0 < k := by have := hk; omega
        clear hcb E1 d1 d2 d3 hk ha2
        subst hca2
        go_enter Try.func57, Try.ntmps57
        go_wp2_with fail
        go_region_held3 (fun w' => w'.cell? ⟨g, 0, none⟩ = some (.slice A l.length c) ∧ w'.cell? ⟨g, 1, none⟩ = some (.int .i64 at_)) (first | exact ⟨h0, h1⟩ | go_keep | exact ⟨K1.out.cell id (by go_keep), K1.out.cell id (by go_keep)⟩) (first | (go_at_call 71; refine (ahead _ _ _ (l.drop at_) limit _ HD HB HLE (HR.out _ (by repeat (first | exact Chg.refl _ _ | refine Chg.drew ?_ | refine Chg.drewN ?_ _)))).mono ?_; rintro e w1 ⟨rfl, k1⟩; rw [HU.out]; have K1 := Lib.hid k1; clear k1))
        have g0 : w1.cell? ⟨g, 0, none⟩ = some (.slice A l.length c) := K1.out.cell id h0
        have g1 : w1.cell? ⟨g, 1, none⟩ = some (.int .i64 at_) := K1.out.cell id h1
        have g2 : w1.frozen? ⟨g, 1, none⟩ = false := hf1.out w1 (((Chg.refl _ w).drew).trans K1.out (fun _ _ h => h))
        have hF : RdrF w1 g (.slice A l.length c) l at_ := h.out.chg (((Chg.refl _ w).drew).trans K1.out (fun _ _ h => h)) id (fun _ _ => id)
        have HF := Lib.hid hF
        clear hF
        go_wp2_with fail
        go_quiet (fail)
        go_wp2_with fail
        go_ret2
        exact textF_far (by omega) HU.out HK.out HF.out (((Chg.refl _ w).drew).trans K1.out (fun _ _ h => h))
      · go_enter Try.func57, Try.ntmps57
        go_wp2_with fail
        go_region_held3 (fun w' => w'.cell? ⟨g, 0, none⟩ = some (.slice A l.length c) ∧ w'.cell? ⟨g, 1, none⟩ = some (.int .i64 at_)) (first | exact ⟨h0, h1⟩ | go_keep | exact ⟨K1.out.cell id (by go_keep), K1.out.cell id (by go_keep)⟩) (first | (go_at_call 71; refine (ahead _ _ _ (l.drop at_) limit _ HD HB HLE (HR.out _ (by repeat (first | exact Chg.refl _ _ | refine Chg.drew ?_ | refine Chg.drewN ?_ _)))).mono ?_; rintro e w1 ⟨rfl, k1⟩; rw [HU.out]; have K1 := Lib.hid k1; clear k1))
        have g0 : w1.cell? ⟨g, 0, none⟩ = some (.slice A l.length c) := K1.out.cell id h0
        have g1 : w1.cell? ⟨g, 1, none⟩ = some (.int .i64 at_) := K1.out.cell id h1
        have g2 : w1.frozen? ⟨g, 1, none⟩ = false := hf1.out w1 (((Chg.refl _ w).drew).trans K1.out (fun _ _ h => h))
        have hF : RdrF w1 g (.slice A l.length c) l at_ := h.out.chg (((Chg.refl _ w).drew).trans K1.out (fun _ _ h => h)) id (fun _ _ => id)
        have HF := Lib.hid hF
        clear hF
        have d5 : decide (l.length - (at_ + n) < k) = true := by simp; omega
        have d6 : l.length - (at_ + n) < k := by omega
        have HK := Lib.hid hk
        clear hk
        go_wp2_with fail
        go_quiet (fail)
        go_wp2_with fail
        go_ret2
        exact textF_far (by omega) HU.out HK.out HF.out (((Chg.refl _ w).drew).trans K1.out (fun _ _ h => h))
    · have hk : (k : Int) ≤ (l.length : Int) - ((at_ + n : Nat) : Int) := by omega
      have d4 : (k : Int) ≤ (l.length : Int) - ((at_ : Int) + (n : Int)) := by omega
      by_cases hcb : c = at_ + n
      · have HCB := Lib.hid hcb
        obtain ⟨a2, ha2⟩ : ∃ a2 : Nat, a2 = at_ + n := ⟨_, rfl⟩
        have HA2 := Lib.hid ha2
        have EA : (at_ : Int) + (n : Int) = (a2 : Int) := by omega
        have hca2 : c = a2 := by omega
        have e1 : (0 : Int) ≤ (a2 : Int) := by omega
        have e2 : (a2 : Int) ≤ (l.length : Int) := by omega
        have E4 : IntKind.i64.wrap (a2 : Int) = (a2 : Int) := IntWalk.i64_in _ (by omega)
        have HK := Lib.hid hk
        obtain rfl : k = 0 := by omega
        clear hcb E1 d1 d2 d3 hk ha2
        subst hca2
        go_enter Try.func57, Try.ntmps57
        go_wp2_with fail
        go_region_held3 (fun w' => w'.cell? ⟨g, 0, none⟩ = some (.slice A l.length c) ∧ w'.cell? ⟨g, 1, none⟩ = some (.int .i64 at_)) (first | exact ⟨h0, h1⟩ | go_keep | exact ⟨K1.out.cell id (by go_keep), K1.out.cell id (by go_keep)⟩) (first | (go_at_call 71; refine (ahead _ _ _ (l.drop at_) limit _ HD HB HLE (HR.out _ (by repeat (first | exact Chg.refl _ _ | refine Chg.drew ?_ | refine Chg.drewN ?_ _)))).mono ?_; rintro e w1 ⟨rfl, k1⟩; rw [HU.out]; have K1 := Lib.hid k1; clear k1))
        have g0 : w1.cell? ⟨g, 0, none⟩ = some (.slice A l.length c) := K1.out.cell id h0
        have g1 : w1.cell? ⟨g, 1, none⟩ = some (.int .i64 at_) := K1.out.cell id h1
        have g2 : w1.frozen? ⟨g, 1, none⟩ = false := hf1.out w1 (((Chg.refl _ w).drew).trans K1.out (fun _ _ h => h))
        have hF : RdrF w1 g (.slice A l.length c) l at_ := h.out.chg (((Chg.refl _ w).drew).trans K1.out (fun _ _ h => h)) id (fun _ _ => id)
        have HCV : ∀ q z, (convert 22 9 (.slice A 0 0)).run Try.prog ((w1.drewN q).setCell ⟨g, 1, none⟩ (.int .i64 z)) = .ok (.string (strOf ((l.drop (at_ + n)).take 0))) ((w1.drewN q).setCell ⟨g, 1, none⟩ (.int .i64 z)) := fun q z => conv_str _ _ _ _ _ rfl (Rd.nil _ _ _)
        have HF := Lib.hid hF
        clear hF
        go_wp2_with fail
        go_quiet (fail)
        go_wp2_with fail
        go_ret2
        exact textF_ok0 (by omega) HU.out HK.out HA2.out HF.out (((Chg.refl _ w).drew).trans K1.out (fun _ _ h => h))
      · go_enter Try.func57, Try.ntmps57
        go_wp2_with fail
        go_region_held3 (fun w' => w'.cell? ⟨g, 0, none⟩ = some (.slice A l.length c) ∧ w'.cell? ⟨g, 1, none⟩ = some (.int .i64 at_)) (first | exact ⟨h0, h1⟩ | go_keep | exact ⟨K1.out.cell id (by go_keep), K1.out.cell id (by go_keep)⟩) (first | (go_at_call 71; refine (ahead _ _ _ (l.drop at_) limit _ HD HB HLE (HR.out _ (by repeat (first | exact Chg.refl _ _ | refine Chg.drew ?_ | refine Chg.drewN ?_ _)))).mono ?_; rintro e w1 ⟨rfl, k1⟩; rw [HU.out]; have K1 := Lib.hid k1; clear k1))
        have g0 : w1.cell? ⟨g, 0, none⟩ = some (.slice A l.length c) := K1.out.cell id h0
        have g1 : w1.cell? ⟨g, 1, none⟩ = some (.int .i64 at_) := K1.out.cell id h1
        have g2 : w1.frozen? ⟨g, 1, none⟩ = false := hf1.out w1 (((Chg.refl _ w).drew).trans K1.out (fun _ _ h => h))
        have hF : RdrF w1 g (.slice A l.length c) l at_ := h.out.chg (((Chg.refl _ w).drew).trans K1.out (fun _ _ h => h)) id (fun _ _ => id)
        have HCV : ∀ q z, (convert 22 9 (.slice (Option.map ((fun x => x) ∘ fun x => x.add (at_ + n)) A) k (c - (at_ + n)))).run Try.prog ((w1.drewN q).setCell ⟨g, 1, none⟩ (.int .i64 z)) = .ok (.string (strOf ((l.drop (at_ + n)).take k))) ((w1.drewN q).setCell ⟨g, 1, none⟩ (.int .i64 z)) := fun q z => conv_str _ _ _ _ _ (textF_len hk (by omega)) (textF_rd hF)
        have HF := Lib.hid hF
        clear hF
        have d5 : decide (l.length - (at_ + n) < k) = false := by simp; omega
        have d6 : ¬ l.length - (at_ + n) < k := by omega
        have HK := Lib.hid hk
        clear hk
        go_wp2_with fail
        go_quiet (fail)
        go_wp2_with fail
        go_ret2
        exact textF_ok (by omega) HU.out HK.out HF.out (((Chg.refl _ w).drew).trans K1.out (fun _ _ h => h))
  · have he' : (er != 0) = true := by simpa using he
    have HE := Lib.hid he
    clear hu hle hrg hnl he
    by_cases hca : c = at_
    · have HR : Hid (∀ W : World, Rd W .u8 A (l.drop at_)) := fun W => by
        rw [List.drop_eq_nil_of_le (by omega)]
        exact Rd.nil _ _ _
      have HD0 : Hid (0 = (l.drop at_).length) := by rw [Hid, List.length_drop]; omega
      subst hca
      go_enter Try.func57, Try.ntmps57
      go_wp2_with fail
      go_region_held3 (fun w' => w'.cell? ⟨g, 0, none⟩ = some (.slice A l.length c) ∧ w'.cell? ⟨g, 1, none⟩ = some (.int .i64 c)) (first | exact ⟨h0, h1⟩ | go_keep | exact ⟨K1.out.cell id (by go_keep), K1.out.cell id (by go_keep)⟩) (first | (go_at_call 71; refine (ahead _ _ _ (l.drop c) limit _ HD0 HB HLE (HR.out _)).mono ?_; rintro e w1 ⟨rfl, k1⟩; rw [HU.out]; have K1 := Lib.hid k1; clear k1))
      go_wp2
      go_ret2
      exact ⟨[], c, er, rfl, h.out.chg (((Chg.refl _ w).drew).trans K1.out (fun _ _ h => h)) id (fun _ _ => id), ((Chg.refl _ w).drew).trans K1.out (fun _ _ h => h.elim), .inr (.inl ⟨by omega, HE.out, rfl, rfl, by rw [HU.out]⟩)⟩
    · have HR : Hid (∀ W, Chg (fun _ => False) w W → Rd W .u8 (A.map (·.add at_)) (l.drop at_)) := fun W hW => rd_from (hrd.out.chg hW (fun _ _ _ => id)) at_
      go_enter Try.func57, Try.ntmps57
      go_wp2_with fail
      go_region_held3 (fun w' => w'.cell? ⟨g, 0, none⟩ = some (.slice A l.length c) ∧ w'.cell? ⟨g, 1, none⟩ = some (.int .i64 at_)) (first | exact ⟨h0, h1⟩ | go_keep | exact ⟨K1.out.cell id (by go_keep), K1.out.cell id (by go_keep)⟩) (first | (go_at_call 71; refine (ahead _ _ _ (l.drop at_) limit _ HD HB HLE (HR.out _ (by repeat (first | exact Chg.refl _ _ | refine Chg.drew ?_ | refine Chg.drewN ?_ _)))).mono ?_; rintro e w1 ⟨rfl, k1⟩; rw [HU.out]; have K1 := Lib.hid k1; clear k1))
      go_wp2
      go_ret2
      exact ⟨[], at_, er, rfl, h.out.chg (((Chg.refl _ w).drew).trans K1.out (fun _ _ h => h)) id (fun _ _ => id), ((Chg.refl _ w).drew).trans K1.out (fun _ _ h => h.elim), .inr (.inl ⟨by omega, HE.out, rfl, rfl, by rw [HU.out]⟩)⟩
end Go.Proofs.Ytcljbaoadmflgaa.Kit
