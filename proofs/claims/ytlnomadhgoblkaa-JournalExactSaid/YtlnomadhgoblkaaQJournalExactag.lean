/- Texts that the row leans on: Jr, Js, Jt, Jv. -/
import Derived.Test.YtlnomadhgoblkaaProg
import Derived.Test.YtlnomadhgoblkaaQJournalExactaf
import Derived.Test.YtlnomadhgoblkaaQJournalExactae
import Derived.Defers
import Derived.Lib.Bytes
-- The journal: the cursor's byte, number, rest, take.
set_option linter.unusedVariables false
set_option linter.unusedSimpArgs false
namespace Go.Proofs.Ytlnomadhgoblkaa.Kit
open Go.RowKit
/-- a journal that is read: in block g, at place p of l; what it fills in block gj -/
structure Opn (w : World) (g gj : Nat) (A : Option Addr) (n c : Nat) (l : List Int) (p : Nat) : Prop where
  blk : Blk w g 110 [.slice A n c, .int .i64 p, .pointer (some ⟨gj, 0, none⟩)]
  rd : Rd w .u8 A l
  len : n = l.length
  le : p ≤ n
  cap : n ≤ c
  mx : c ≤ maxLen
  bound : n ≤ 268435456
  ne : Value.ownBlock (.slice A n c) ≠ some g
  lo : ∀ y, Value.ownBlock (.slice A n c) = some y → y < w.heap.size
namespace Opn
variable {w w1 : World} {g gj : Nat} {A : Option Addr} {n c : Nat} {l : List Int} {p : Nat}
theorem chg {S : Nat → Prop} (h : Opn w g gj A n c l p) (k : Chg S w w1) (hg : ¬ S g) (hA : ∀ y, Value.ownBlock (.slice A n c) = some y → ¬ S y) : Opn w1 g gj A n c l p :=
  ⟨h.blk.chg k hg, h.rd.chg k (fun ad e _ => hA _ (by rw [e]; rfl)), h.len, h.le, h.cap, h.mx, h.bound, h.ne, fun y hy => Nat.lt_of_lt_of_le (h.lo y hy) k.size⟩
theorem chg0 (h : Opn w g gj A n c l p) (k : Chg (fun _ => False) w w1) : Opn w1 g gj A n c l p := h.chg k id (fun _ _ => id)
theorem drewN (h : Opn w g gj A n c l p) (q : Nat) : Opn (w.drewN q) g gj A n c l p := h.chg0 ((Chg.refl _ w).drewN q)
theorem move (h : Opn w g gj A n c l p) {q : Nat} (hq : q ≤ n) : Opn (w.setCell ⟨g, 1, none⟩ (.int .i64 q)) g gj A n c l q :=
  ⟨h.blk.set 1 _, h.rd.chg ((Chg.refl (· = g) w).setg 1 _) (fun ad e _ hh => h.ne (by rw [e, ← hh]; rfl)), h.len, hq, h.cap, h.mx, h.bound, h.ne, fun y hy => Nat.lt_of_lt_of_le (h.lo y hy) ((Chg.refl (· = g) w).setg 1 _).size⟩
end Opn
/-- urd looks at ten bytes alone -/
theorem vlp_take : ∀ (f i : Nat) (l : List Int) (x : Int), i + f = 10 → vlp (l.take 10) f i x = vlp l f i x
  | 0, i, l, x, hi => by
    have : (l.take 10).length < 10 ↔ l.length < 10 := by rw [List.length_take]; omega
    simp only [vlp, this]
  | f + 1, i, l, x, hi => by
    have h10 : (l.take 10).length < 10 ↔ l.length < 10 := by rw [List.length_take]; omega
    have hil : i < (l.take 10).length ↔ i < l.length := by rw [List.length_take]; omega
    have hg : (l.take 10).getD i 0 = l.getD i 0 := by
      rw [List.getD_eq_getElem?_getD, List.getD_eq_getElem?_getD, List.getElem?_take, if_pos (by omega)]
    simp only [vlp, h10, hil, hg, vlp_take f (i + 1) l _ (by omega)]
theorem urd_take (l : List Int) (limit : Int) : urd (l.take 10) limit = urd l limit := by
  unfold urd
  rw [vlp_take 10 0 l 0 rfl]
theorem byteNo {g gj : Nat} {A : Option Addr} {n c : Nat} {l : List Int} {p : Nat} {w : World} (h : Hid (Opn w g gj A n c l p)) (hp : n ≤ p) :
    Calls Try.prog 64 #[.pointer (some ⟨g, 0, none⟩)] w fun e w' => e = .returned (.tuple #[.int .u8 0, .bool false]) ∧ ∃ q, w' = w.drewN q := by
  have h0 := h.out.blk.at_ (i := 0) rfl
  have h1 := h.out.blk.at_ (i := 1) rfl
  have hb := h.out.bound
  have hle := h.out.le
  go_enter Try.func64, Try.ntmps64
  go_wp2_with fail
  go_quiet (fail)
  go_wp2_with fail
  go_ret2
  exact ⟨rfl, _, rfl⟩
theorem byteOk {g gj : Nat} {A : Option Addr} {n c : Nat} {l : List Int} {p : Nat} {b : Int} {w : World} (h : Hid (Opn w g gj A n c l p)) (hp : p < n) (hb : Hid (l[p]? = some b)) :
    Calls Try.prog 64 #[.pointer (some ⟨g, 0, none⟩)] w fun e w' => e = .returned (.tuple #[.int .u8 b, .bool true]) ∧ Opn w' g gj A n c l (p + 1) ∧ Chg (· = g) w w' := by
  have h0 := h.out.blk.at_ (i := 0) rfl
  have h1 := h.out.blk.at_ (i := 1) rfl
  have f1 := h.out.blk.frozen (i := 1) (by simp)
  have hbd := h.out.bound
  have hle := h.out.le
  have hcap := h.out.cap
  have hpl : p < l.length := by rw [← h.out.len]; exact hp
  obtain ⟨ad, rfl, hc⟩ := h.out.rd p hpl
  have hbe : l[p] = b := by
    have := hb.out
    rw [List.getElem?_eq_getElem hpl] at this
    injection this
  rw [hbe] at hc
  have b1 : (0 : Int) ≤ (p : Int) := by omega
  have b2 : (p : Int) < (n : Int) := by omega
  have E1 : IntKind.i64.wrap ((p : Int) + 1 - 1) = (p : Int) := by rw [IntWalk.i64_in _ (by omega)]; omega
  have E2 : (p : Int) + 1 - 1 = (p : Int) := by omega
  have HPL := Lib.hid hpl
  have HBE := Lib.hid hbe
  clear hbe hc
  go_enter Try.func64, Try.ntmps64
  go_wp2_with fail
  go_quiet (fail)
  go_wp2_with fail
  have e1 : ((p + 1 : Nat) : Int) = (p : Int) + 1 := by omega
  obtain ⟨w1, hw1⟩ : ∃ w1, w1 = (w.drewN nq).setCell ⟨g, 1, none⟩ (.int .i64 ((p : Int) + 1)) := ⟨_, rfl⟩
  have M : Hid (Opn w1 g gj (some ad) n c l (p + 1)) := by rw [hw1, ← e1]; exact (h.out.drewN nq).move (by omega)
  have C1 : Hid (Chg (· = g) w w1) := by rw [hw1]; exact ((Chg.refl (· = g) w).drewN nq).setg 1 _
  have m0 := M.out.blk.at_ (i := 0) rfl
  have m1 := M.out.blk.at_ (i := 1) rfl
  rw [e1] at m1
  have mc : w1.cell? (ad.add p) = some (.int .u8 b) := by
    obtain ⟨ad', e', hc'⟩ := M.out.rd p HPL.out
    injection e' with e'
    subst e'
    rw [hc', HBE.out]
  rw [← hw1]
  clear hw1 e1
  go_quiet (fail)
  go_wp2_with fail
  go_ret2
  exact ⟨rfl, M.out.drewN _, C1.out.drewN _⟩
attribute [local go_sem] min2_int min_two
set_option maxHeartbeats 3200000 in
/-- what a varint's reading leaves of the cursor -/
theorem numberC {g gj : Nat} {A : Option Addr} {n c : Nat} {l : List Int} {p p2 k : Nat} {limit x er : Int} {w : World} (h : Hid (Opn w g gj A n c l p)) (hu : Hid (urd (l.drop p) limit = (x, k, er))) (hp2 : Hid (p + k = p2)) (hb : Hid (Byt l)) :
    Calls Try.prog 65 #[.pointer (some ⟨g, 0, none⟩), .int .u64 limit] w fun e w' => e = .returned (.tuple #[.int .u64 x, .bool (er == 0)]) ∧ Opn w' g gj A n c l p2 ∧ Chg (· = g) w w' := by
  have h0 := h.out.blk.at_ (i := 0) rfl
  have h1 := h.out.blk.at_ (i := 1) rfl
  have f1 := h.out.blk.frozen (i := 1) (by simp)
  have hbd := h.out.bound
  have hle := h.out.le
  have hcap := h.out.cap
  have hmx := h.out.mx
  obtain ⟨q, hq⟩ : ∃ q, q = min n (p + 10) := ⟨_, rfl⟩
  have hqn : q ≤ n := by omega
  have hpq : p ≤ q := by omega
  have hqi : min (n : Int) ((p : Int) + 10) = (q : Int) := by omega
  have HT : Hid (q - p = ((l.drop p).take 10).length) := by rw [Hid, List.length_take, List.length_drop, ← h.out.len]; omega
  have HL : Hid (((l.drop p).take 10).length ≤ 140737488355328) := by rw [Hid, List.length_take]; omega
  have HU : Hid (urd (((l.drop p).take 10).drop 0) limit = (x, k, er)) := by rw [Hid, List.drop_zero, urd_take]; exact hu.out
  have HK0 : Hid (0 + k = k) := by rw [Hid]; omega
  have hkle : k ≤ n - p := by
    have := urd_nle (l.drop p) limit
    rw [hu.out, List.length_drop, ← h.out.len] at this
    exact this
  have b0 : (0 : Int) ≤ (p : Int) := by omega
  have b1 : (p : Int) ≤ (q : Int) := by omega
  have b2 : (q : Int) ≤ (n : Int) := by omega
  have b3 : (n : Int) ≤ (c : Int) := by omega
  have b4 : (q : Int) ≤ (c : Int) := by omega
  have HQ := Lib.hid hq
  clear hq
  have hsepA : Hid (∀ y, Value.ownBlock (.slice A n c) = some y → ¬ w.heap.size ≤ y) := fun y hy => by have := h.out.lo y hy; omega
  by_cases hcp : c = p
  · subst hcp
    have HNIL : Hid ((l.drop c).take 10 = []) := by rw [Hid, List.drop_of_length_le (by rw [← h.out.len]; omega), List.take_nil]
    have HR : Hid (∀ W, Chg (fun _ => False) w W → Rd W .u8 A ((l.drop c).take 10)) := fun W hW => by rw [HNIL.out]; intro i hi; simp at hi
    have E1 : IntKind.i64.wrap ((c : Int) + 10) = (c : Int) + 10 := IntWalk.i64_in _ (by omega)
    go_enter Try.func65, Try.ntmps65
    go_wp2_with fail
    go_region_held3 (fun w' => w'.cell? ⟨g, 0, none⟩ = some (.slice A n c) ∧ w'.cell? ⟨g, 1, none⟩ = some (.int .i64 c)) (first | exact ⟨h0, h1⟩ | exact ⟨(h.out.chg0 C1.out).blk.at_ (i := 0) rfl, (h.out.chg0 C1.out).blk.at_ (i := 1) rfl⟩ | go_keep) (first | (go_at_call 74; refine (newReader' HT HL (HR.out _ (by repeat (first | exact Chg.refl _ _ | refine Chg.drew ?_ | refine Chg.drewN ?_ _)))).mono ?_; rintro e w1 ⟨gr, vr, rfl, m1, m2, m3, m4⟩; have C1 : Hid (Chg (fun _ => False) w w1) := (show Chg (fun _ => False) w _ from by repeat (first | exact Chg.refl _ _ | refine Chg.drew ?_ | refine Chg.drewN ?_ _)).trans m4 (fun _ _ h => h); have RR := Lib.hid m1; have GR : Hid (w.heap.size ≤ gr) := m2; clear m1 m2 m3 m4))
    have J1 := Lib.hid (h.out.chg0 C1.out)
    go_wp2_with fail
    refine (uintTo HU HK0 RR).mono ?_
    rintro e w2 ⟨rfl, m1, m2⟩
    have J2 : Hid (Opn w2 g gj A n c l c) := J1.out.chg m2 (fun e => by have := GR.out; have := h.out.blk.lt; omega) (fun y hy e => by
      have h5 := GR.out
      have h6 := RR.out.blk
      subst e
      exact hsepA.out y hy (by omega))
    have C2 : Hid (Chg (fun _ => False) w w2) := C1.out.trans m2 (fun y hy e => by have := GR.out; omega)
    have RF : Hid (∀ W, Chg (fun _ => False) w2 W → Rdr W gr vr ((l.drop c).take 10) k) := fun W hW => m1.chg hW id (fun _ _ => id)
    have n1 := J2.out.blk.at_ (i := 1) rfl
    have nf := J2.out.blk.frozen (i := 1) (by simp)
    have E2 : IntKind.i64.wrap ((c : Int) + (k : Int)) = (c : Int) + (k : Int) := IntWalk.i64_in _ (by omega)
    have e12 : ((p2 : Nat) : Int) = (c : Int) + (k : Int) := by have := hp2.out; omega
    have HE12 := Lib.hid e12
    clear m1 m2 e12
    go_wp2_with fail
    go_region_with (first | (go_at_call 76; refine (place gr vr _ k _ (RF.out _ (by repeat (first | exact Chg.refl _ _ | refine Chg.drew ?_ | refine Chg.drewN ?_ _)))).mono ?_; rintro e w3 ⟨rfl, rfl⟩))
    all_goals
      go_wp2_with fail
      go_ret2
      rw [← HE12.out]
      exact ⟨rfl, ((J2.out.chg0 ((Chg.refl _ w2).drew)).move (by have := hp2.out; omega)), (((C2.out.drew).mono (fun _ _ h => h.elim)).setg 1 _)⟩
  · have HR : Hid (∀ W, Chg (fun _ => False) w W → Rd W .u8 (A.map (·.add p)) ((l.drop p).take 10)) := fun W hW => (rd_from (h.out.rd.chg hW (fun _ _ _ => id)) p).take 10
    have E1 : IntKind.i64.wrap ((p : Int) + 10) = (p : Int) + 10 := IntWalk.i64_in _ (by omega)
    go_enter Try.func65, Try.ntmps65
    go_wp2_with fail
    go_region_held3 (fun w' => w'.cell? ⟨g, 0, none⟩ = some (.slice A n c) ∧ w'.cell? ⟨g, 1, none⟩ = some (.int .i64 p)) (first | exact ⟨h0, h1⟩ | exact ⟨(h.out.chg0 C1.out).blk.at_ (i := 0) rfl, (h.out.chg0 C1.out).blk.at_ (i := 1) rfl⟩ | go_keep) (first | (go_at_call 74; refine (newReader' HT HL (HR.out _ (by repeat (first | exact Chg.refl _ _ | refine Chg.drew ?_ | refine Chg.drewN ?_ _)))).mono ?_; rintro e w1 ⟨gr, vr, rfl, m1, m2, m3, m4⟩; have C1 : Hid (Chg (fun _ => False) w w1) := (show Chg (fun _ => False) w _ from by repeat (first | exact Chg.refl _ _ | refine Chg.drew ?_ | refine Chg.drewN ?_ _)).trans m4 (fun _ _ h => h); have RR := Lib.hid m1; have GR : Hid (w.heap.size ≤ gr) := m2; clear m1 m2 m3 m4))
    have J1 := Lib.hid (h.out.chg0 C1.out)
    go_wp2_with fail
    refine (uintTo HU HK0 RR).mono ?_
    rintro e w2 ⟨rfl, m1, m2⟩
    have J2 : Hid (Opn w2 g gj A n c l p) := J1.out.chg m2 (fun e => by have := GR.out; have := h.out.blk.lt; omega) (fun y hy e => by
      have h5 := GR.out
      have h6 := RR.out.blk
      subst e
      exact hsepA.out y hy (by omega))
    have C2 : Hid (Chg (fun _ => False) w w2) := C1.out.trans m2 (fun y hy e => by have := GR.out; omega)
    have RF : Hid (∀ W, Chg (fun _ => False) w2 W → Rdr W gr vr ((l.drop p).take 10) k) := fun W hW => m1.chg hW id (fun _ _ => id)
    have n1 := J2.out.blk.at_ (i := 1) rfl
    have nf := J2.out.blk.frozen (i := 1) (by simp)
    have E2 : IntKind.i64.wrap ((p : Int) + (k : Int)) = (p : Int) + (k : Int) := IntWalk.i64_in _ (by omega)
    have e12 : ((p2 : Nat) : Int) = (p : Int) + (k : Int) := by have := hp2.out; omega
    have HE12 := Lib.hid e12
    clear m1 m2 e12
    go_wp2_with fail
    go_region_with (first | (go_at_call 76; refine (place gr vr _ k _ (RF.out _ (by repeat (first | exact Chg.refl _ _ | refine Chg.drew ?_ | refine Chg.drewN ?_ _)))).mono ?_; rintro e w3 ⟨rfl, rfl⟩))
    all_goals
      go_wp2_with fail
      go_ret2
      rw [← HE12.out]
      exact ⟨rfl, ((J2.out.chg0 ((Chg.refl _ w2).drew)).move (by have := hp2.out; omega)), (((C2.out.drew).mono (fun _ _ h => h.elim)).setg 1 _)⟩
/-- where a slice begins that is cut at p -/
def cutA (A : Option Addr) (c p : Nat) : Option Addr := if c = p then A else A.map (·.add p)
theorem restC {g gj : Nat} {A : Option Addr} {n c : Nat} {l : List Int} {p : Nat} {w : World} (h : Hid (Opn w g gj A n c l p)) :
    Calls Try.prog 77 #[.pointer (some ⟨g, 0, none⟩)] w fun e w' => (∃ A' c', e = .returned (.slice A' (n - p) c')) ∧ ∃ q, w' = w.drewN q := by
  have h0 := h.out.blk.at_ (i := 0) rfl
  have h1 := h.out.blk.at_ (i := 1) rfl
  have hbd := h.out.bound
  have hle := h.out.le
  have hcap := h.out.cap
  have hmx := h.out.mx
  have b0 : (0 : Int) ≤ (p : Int) := by omega
  have b1 : (p : Int) ≤ (n : Int) := by omega
  have b3 : (n : Int) ≤ (c : Int) := by omega
  by_cases hcp : c = p
  · go_enter Try.func77, Try.ntmps77
    go_wp2_with fail
    go_quiet (fail)
    go_wp2_with fail
    go_ret
    exact ⟨⟨_, _, rfl⟩, _, rfl⟩
  · go_enter Try.func77, Try.ntmps77
    go_wp2_with fail
    go_quiet (fail)
    go_wp2_with fail
    go_ret
    exact ⟨⟨_, _, rfl⟩, _, rfl⟩
theorem takeNo {g gj : Nat} {A : Option Addr} {n c : Nat} {l : List Int} {p : Nat} {m : Int} {w : World} (h : Hid (Opn w g gj A n c l p)) (hm : Hid ((n : Int) - p < m)) :
    Calls Try.prog 66 #[.pointer (some ⟨g, 0, none⟩), .int .i64 m] w fun e w' => e = .returned (.tuple #[.slice none 0 0, .bool false]) ∧ ∃ q, w' = w.drewN q := by
  have hle := h.out.le
  have hg : ((n - p : Nat) : Int) < m := by have := hm.out; omega
  have hg2 : m > ((n - p : Nat) : Int) := hg
  go_enter Try.func66, Try.ntmps66
  go_wp2_with fail
  refine (restC h).mono ?_
  rintro e w1 ⟨⟨A1, c1, rfl⟩, q, rfl⟩
  go_wp2_with fail
  go_ret2
  exact ⟨rfl, _, rfl⟩
end Go.Proofs.Ytlnomadhgoblkaa.Kit
-- The journal: take.
set_option linter.unusedVariables false
set_option linter.unusedSimpArgs false
namespace Go.Proofs.Ytlnomadhgoblkaa.Kit
open Go.RowKit
set_option maxHeartbeats 3200000 in
theorem takeOk {g gj : Nat} {A : Option Addr} {n c : Nat} {l : List Int} {p m p2 : Nat} {w : World} (h : Hid (Opn w g gj A n c l p)) (hp2 : Hid (p + m = p2)) (hm : Hid (p2 ≤ n)) :
    Calls Try.prog 66 #[.pointer (some ⟨g, 0, none⟩), .int .i64 m] w fun e w' => ∃ A1 n1 c1, e = .returned (.tuple #[.slice A1 n1 c1, .bool true]) ∧ Opn w' g gj A n c l p2 ∧ n1 = m ∧ OwnB w' (.slice A1 n1 c1) ((l.drop p).take m) ∧ Chg (· = g) w w' ∧ (∀ k, Value.ownBlock (.slice A1 n1 c1) = some k → w.heap.size ≤ k) := by
  have hle := h.out.le
  have hbd := h.out.bound
  have hcap := h.out.cap
  have hmx := h.out.mx
  have h1 := h.out.blk.at_ (i := 1) rfl
  have f1 := h.out.blk.frozen (i := 1) (by simp)
  have hpp := hp2.out
  have hmm := hm.out
  have hg : ((n - p : Nat) : Int) ≥ (m : Int) := by omega
  have hg2 : ¬ ((m : Int) > ((n - p : Nat) : Int)) := by omega
  have E1 : IntKind.i64.wrap ((p : Int) + (m : Int)) = (p2 : Int) := by rw [IntWalk.i64_in _ (by omega)]; omega
  have E2 : IntKind.i64.wrap ((p2 : Int) - (m : Int)) = (p : Int) := by rw [IntWalk.i64_in _ (by omega)]; omega
  have b0 : (0 : Int) ≤ (p : Int) := by omega
  have b1 : (p : Int) ≤ (p2 : Int) := by omega
  have b3 : (p2 : Int) ≤ (c : Int) := by omega
  have HN : Hid (p2 - p = ((l.drop p).take m).length) := by
    have := h.out.len
    rw [Hid, List.length_take, List.length_drop]
    omega
  by_cases hcp : c = p
  · subst hcp
    have HNIL : Hid ((l.drop c).take m = []) := by rw [Hid, List.drop_of_length_le (by rw [← h.out.len]; omega), List.take_nil]
    go_enter Try.func66, Try.ntmps66
    go_wp2_with fail
    refine (restC h).mono ?_
    rintro e w1 ⟨⟨A1, c1, rfl⟩, q, rfl⟩
    go_wp2_with fail
    obtain ⟨w1, hw1⟩ : ∃ w1, w1 = (w.drewN q).setCell ⟨g, 1, none⟩ (.int .i64 (p2 : Int)) := ⟨_, rfl⟩
    have J1 : Hid (Opn w1 g gj A n c l p2) := by rw [hw1]; exact (h.out.drewN q).move hmm
    have K1 : Hid (Chg (· = g) w w1) := by rw [hw1]; exact ((Chg.refl (· = g) w).drewN q).setg 1 _
    have S1 : Hid (w1.heap.size = w.heap.size) := by rw [hw1]; simp [Hid]
    have m0 := J1.out.blk.at_ (i := 0) rfl
    have m1 := J1.out.blk.at_ (i := 1) rfl
    have HR : Hid (∀ W, Chg (fun _ => False) w1 W → Rd W .u8 A ((l.drop c).take m)) := fun W hW => by rw [HNIL.out]; intro i hi; simp at hi
    rw [← hw1]
    clear hw1 f1 h1
    go_region_held3 (fun w' => w'.cell? ⟨g, 0, none⟩ = some (.slice A n c) ∧ w'.cell? ⟨g, 1, none⟩ = some (.int .i64 p2)) (first | exact ⟨m0, m1⟩ | exact ⟨(J1.out.chg0 C1.out.chg).blk.at_ (i := 0) rfl, (J1.out.chg0 C1.out.chg).blk.at_ (i := 1) rfl⟩ | go_keep) (first | (go_at_call 44; refine (cloneB _ _ _ _ _ HN (by omega) (HR.out _ (by repeat (first | exact Chg.refl _ _ | refine Chg.drew ?_ | refine Chg.drewN ?_ _)))).mono ?_; rintro e w2 ⟨A2, n2, c2, rfl, k1⟩; have C1 : Hid (Made w1 w2 A2 n2 c2 ((l.drop c).take m)) := ⟨k1.len, k1.own, (show Chg (fun _ => False) w1 _ from by repeat (first | exact Chg.refl _ _ | refine Chg.drew ?_ | refine Chg.drewN ?_ _)).trans k1.chg (fun _ _ h => h), k1.new, k1.cap⟩; clear k1))
    all_goals
      go_wp2_with fail
      go_ret2
      refine ⟨_, _, _, rfl, J1.out.chg0 C1.out.chg, ?_, C1.out.own, K1.out.trans C1.out.chg (fun _ _ h => h.elim), fun k hk => by rw [← S1.out]; exact C1.out.new k hk⟩
      have := C1.out.len
      rw [this, ← HN.out]
      omega
  · go_enter Try.func66, Try.ntmps66
    go_wp2_with fail
    refine (restC h).mono ?_
    rintro e w1 ⟨⟨A1, c1, rfl⟩, q, rfl⟩
    go_wp2_with fail
    obtain ⟨w1, hw1⟩ : ∃ w1, w1 = (w.drewN q).setCell ⟨g, 1, none⟩ (.int .i64 (p2 : Int)) := ⟨_, rfl⟩
    have J1 : Hid (Opn w1 g gj A n c l p2) := by rw [hw1]; exact (h.out.drewN q).move hmm
    have K1 : Hid (Chg (· = g) w w1) := by rw [hw1]; exact ((Chg.refl (· = g) w).drewN q).setg 1 _
    have S1 : Hid (w1.heap.size = w.heap.size) := by rw [hw1]; simp [Hid]
    have m0 := J1.out.blk.at_ (i := 0) rfl
    have m1 := J1.out.blk.at_ (i := 1) rfl
    have HR : Hid (∀ W, Chg (fun _ => False) w1 W → Rd W .u8 (A.map (·.add p)) ((l.drop p).take m)) := fun W hW => (rd_from (J1.out.rd.chg hW (fun _ _ _ => id)) p).take m
    rw [← hw1]
    clear hw1 f1 h1
    go_region_held3 (fun w' => w'.cell? ⟨g, 0, none⟩ = some (.slice A n c) ∧ w'.cell? ⟨g, 1, none⟩ = some (.int .i64 p2)) (first | exact ⟨m0, m1⟩ | exact ⟨(J1.out.chg0 C1.out.chg).blk.at_ (i := 0) rfl, (J1.out.chg0 C1.out.chg).blk.at_ (i := 1) rfl⟩ | go_keep) (first | (go_at_call 44; refine (cloneB _ _ _ _ _ HN (by omega) (HR.out _ (by repeat (first | exact Chg.refl _ _ | refine Chg.drew ?_ | refine Chg.drewN ?_ _)))).mono ?_; rintro e w2 ⟨A2, n2, c2, rfl, k1⟩; have C1 : Hid (Made w1 w2 A2 n2 c2 ((l.drop p).take m)) := ⟨k1.len, k1.own, (show Chg (fun _ => False) w1 _ from by repeat (first | exact Chg.refl _ _ | refine Chg.drew ?_ | refine Chg.drewN ?_ _)).trans k1.chg (fun _ _ h => h), k1.new, k1.cap⟩; clear k1))
    all_goals
      go_wp2_with fail
      go_ret2
      refine ⟨_, _, _, rfl, J1.out.chg0 C1.out.chg, ?_, C1.out.own, K1.out.trans C1.out.chg (fun _ _ h => h.elim), fun k hk => by rw [← S1.out]; exact C1.out.new k hk⟩
      have := C1.out.len
      rw [this, ← HN.out]
      omega
end Go.Proofs.Ytlnomadhgoblkaa.Kit
-- The journal: record's deferred function.
set_option linter.unusedVariables false
set_option linter.unusedSimpArgs false
namespace Go.Proofs.Ytlnomadhgoblkaa.Kit
open Go.RowKit
/-- what record keeps in memory of its own, from block h on -/
structure RecF (w : World) (h g : Nat) (ok : Bool) (fr : Nat) (v0 v1 : Value) : Prop where
  o : Blk w h 106 [.pointer (some ⟨g, 0, none⟩)]
  ok : Blk w (h + 1) 4 [.bool ok]
  fr : Blk w (h + 2) 3 [.int .i64 fr]
  r : Blk w (h + 3) 31 [v0, v1]
theorem RecF.chg {w w1 : World} {h g : Nat} {ok : Bool} {fr : Nat} {v0 v1 : Value} {S : Nat → Prop} (x : RecF w h g ok fr v0 v1) (k : Chg S w w1) (hS : ∀ y, S y → y < h) : RecF w1 h g ok fr v0 v1 :=
  ⟨x.o.chg k (fun e => by have := hS _ e; omega), x.ok.chg k (fun e => by have := hS _ e; omega), x.fr.chg k (fun e => by have := hS _ e; omega), x.r.chg k (fun e => by have := hS _ e; omega)⟩
theorem RecF.chg0 {w w1 : World} {h g : Nat} {ok : Bool} {fr : Nat} {v0 v1 : Value} (x : RecF w h g ok fr v0 v1) (k : Chg (fun _ => False) w w1) : RecF w1 h g ok fr v0 v1 := x.chg k (fun _ h => h.elim)
theorem recD_no {g gj h : Nat} {A : Option Addr} {n c : Nat} {l : List Int} {p fr : Nat} {v0 v1 : Value} {w : World} (u : FrameMode) (hx : Hid (RecF w h g false fr v0 v1)) (ho : Hid (Opn w g gj A n c l p)) (hfr : fr ≤ n) (hg : g < h) :
    CallsD Try.prog 63 #[.pointer (some ⟨h + 1, 0, none⟩), .pointer (some ⟨h + 2, 0, none⟩), .pointer (some ⟨h, 0, none⟩), .pointer (some ⟨h + 3, 0, none⟩)] u w fun e u' w' => u' = u ∧ (e = .returned (.tuple #[]) ∧ Opn w' g gj A n c l fr ∧ Chg (· = g) w w' ∧ RecF w' h g false fr v0 v1) := by
  have h0 := ho.out.blk.at_ (i := 0) rfl
  have h1 := ho.out.blk.at_ (i := 1) rfl
  have f1 := ho.out.blk.frozen (i := 1) (by simp)
  have x0 := hx.out.o.at_ (i := 0) rfl
  have x1 := hx.out.ok.at_ (i := 0) rfl
  have x2 := hx.out.fr.at_ (i := 0) rfl
  have K : Hid (Chg (· = g) w (w.setCell ⟨g, 1, none⟩ (.int .i64 fr))) := (Chg.refl (· = g) w).setg 1 _
  have J := Lib.hid (ho.out.move hfr)
  have X : Hid (RecF (w.setCell ⟨g, 1, none⟩ (.int .i64 fr)) h g false fr v0 v1) := hx.out.chg K.out (fun y hy => by omega)
  go_enter_d Try.func63, Try.ntmps63
  go_wp2_with fail
  refine bodyPost_ret (results_none rfl _ _ _) rfl ?_
  exact ⟨rfl, J.out, K.out, X.out⟩
theorem recD_yes {g gj h : Nat} {D : Nat → Prop} {A : Option Addr} {n c : Nat} {l : List Int} {p fr sz : Nat} {ls : List SecV} {x : SecV} {b : Value} {w : World} (u : FrameMode) (hx : Hid (RecF w h g true fr (.int .i64 x.id) b)) (ho : Hid (Opn w g gj A n c l p)) (hp : Hid (fr + sz = p)) (hz : 0 < sz)
    (hj : Hid (Jn w D gj ls)) (hbo : Hid (OwnB w b x.body)) (hba : Hid (∀ y, b.ownBlock = some y → ¬ D y)) (hl : Hid ((l.drop fr).take sz = recEnc ls.length x)) (hsz : Hid ((jnlBytes ls).length + sz ≤ 1073741824)) (hll : ls.length ≤ 1073741824) (hg : g < h) (hgj : gj < h) (hD : Hid (∀ y, D y → y < h)) (hne : g ≠ gj) (hgD : Hid (¬ D g))
    (hA : Hid (∀ y, Value.ownBlock (.slice A n c) = some y → ¬ (y = gj ∨ D y))) :
    CallsD Try.prog 63 #[.pointer (some ⟨h + 1, 0, none⟩), .pointer (some ⟨h + 2, 0, none⟩), .pointer (some ⟨h, 0, none⟩), .pointer (some ⟨h + 3, 0, none⟩)] u w fun e u' w' => u' = u ∧ (e = .returned (.tuple #[]) ∧ Opn w' g gj A n c l p ∧ Jn w' (fun y => D y ∨ b.ownBlock = some y ∨ (w.heap.size ≤ y ∧ y < w'.heap.size)) gj (ls ++ [x]) ∧ Chg (fun y => y = gj ∨ D y) w w' ∧ RecF w' h g true fr (.int .i64 x.id) b) := by
  have h0 := ho.out.blk.at_ (i := 0) rfl
  have h1 := ho.out.blk.at_ (i := 1) rfl
  have h2 := ho.out.blk.at_ (i := 2) rfl
  have x0 := hx.out.o.at_ (i := 0) rfl
  have x1 := hx.out.ok.at_ (i := 0) rfl
  have x2 := hx.out.fr.at_ (i := 0) rfl
  have x3 := hx.out.r.at_ (i := 0) rfl
  have x4 := hx.out.r.at_ (i := 1) rfl
  have hle := ho.out.le
  have hbd := ho.out.bound
  have hcap := ho.out.cap
  have hmx := ho.out.mx
  have hpp := hp.out
  have hcp : ¬ c = fr := by omega
  have b0 : (0 : Int) ≤ (fr : Int) := by omega
  have b1 : (fr : Int) ≤ (p : Int) := by omega
  have b3 : (p : Int) ≤ (c : Int) := by omega
  have HN : Hid (p - fr = (recEnc ls.length x).length) := by
    have := ho.out.len
    rw [← hl.out, Hid, List.length_take, List.length_drop]
    omega
  have HZ : Hid ((jnlBytes ls).length + (p - fr) ≤ 1073741824) := by
    have := hsz.out
    rw [Hid]
    omega
  have HR : Hid (∀ W, Chg (fun _ => False) w W → Rd W .u8 (A.map (·.add fr)) (recEnc ls.length x)) := fun W hW => by
    rw [← hl.out]
    exact (rd_from (ho.out.rd.chg hW (fun _ _ _ => id)) fr).take sz
  go_enter_d Try.func63, Try.ntmps63
  go_wp2_with fail
  go_region_held3 (fun w' => w'.cell? ⟨g, 0, none⟩ = some (.slice A n c) ∧ w'.cell? ⟨g, 1, none⟩ = some (.int .i64 p) ∧ w'.cell? ⟨g, 2, none⟩ = some (.pointer (some ⟨gj, 0, none⟩)) ∧ w'.cell? ⟨h, 0, none⟩ = some (.pointer (some ⟨g, 0, none⟩)) ∧ w'.cell? ⟨h + 2, 0, none⟩ = some (.int .i64 fr) ∧ w'.cell? ⟨h + 3, 0, none⟩ = some (.int .i64 x.id) ∧ w'.cell? ⟨h + 3, 1, none⟩ = some b)
    (first | exact ⟨h0, h1, h2, x0, x2, x3, x4⟩ | exact ⟨K4.out.blk.at_ (i := 0) rfl, K4.out.blk.at_ (i := 1) rfl, K4.out.blk.at_ (i := 2) rfl, K5.out.o.at_ (i := 0) rfl, K5.out.fr.at_ (i := 0) rfl, K5.out.r.at_ (i := 0) rfl, K5.out.r.at_ (i := 1) rfl⟩ | go_keep)
    (first | (go_at_call 43; (refine (jputI D gj b ls x _ _ _ _ (Lib.hid (hj.out.chg0 (by repeat (first | exact Chg.refl _ _ | refine Chg.drew ?_ | refine Chg.drewN ?_ _)))) (Lib.hid (hbo.out.chg (S := fun _ => False) (by repeat (first | exact Chg.refl _ _ | refine Chg.drew ?_ | refine Chg.drewN ?_ _)) (fun _ _ h => h))) hba HN (Lib.hid (HR.out _ (by repeat (first | exact Chg.refl _ _ | refine Chg.drew ?_ | refine Chg.drewN ?_ _)))) HZ hll).mono ?_; rintro e w2 ⟨rfl, k1, k2⟩; have K1 : Hid (Jn w2 (fun y => D y ∨ b.ownBlock = some y ∨ (w.heap.size ≤ y ∧ y < w2.heap.size)) gj (ls ++ [x])) := (by simpa [Hid] using k1); have K2 : Hid (Chg (fun y => y = gj ∨ D y) w w2) := (show Chg (fun y => y = gj ∨ D y) w _ from by repeat (first | exact Chg.refl _ _ | refine Chg.drew ?_ | refine Chg.drewN ?_ _)).trans k2 (fun _ _ h => h); have K4 : Hid (Opn w2 g gj A n c l p) := ho.out.chg K2.out (fun e => e.elim hne hgD.out) hA.out; have K5 : Hid (RecF w2 h g true fr (.int .i64 x.id) b) := hx.out.chg K2.out (fun y hy => hy.elim (fun e => by rw [e]; exact hgj) (hD.out y)); clear k1 k2)))
  all_goals
    go_wp2_with fail
    first | go_end0 | refine bodyPost_ret (results_none rfl _ _ _) rfl ?_
    exact ⟨rfl, K4.out, K1.out, K2.out, K5.out⟩
end Go.Proofs.Ytlnomadhgoblkaa.Kit
-- The journal: record's end where there is one.
set_option linter.unusedVariables false
set_option linter.unusedSimpArgs false
namespace Go.Proofs.Ytlnomadhgoblkaa.Kit
open Go.RowKit
/-- what record leaves -/
def RecRes (D : Nat → Prop) (g gj : Nat) (A : Option Addr) (n c : Nat) (l : List Int) (p : Nat) (ls : List SecV) (w : World) (R : Option (SecV × Nat)) (e : Ending) (w' : World) : Prop :=
  match R with
  | none => e = .returned (.bool false) ∧ Opn w' g gj A n c l p ∧ Jn w' D gj ls ∧ Chg (· = g) w w'
  | some (x, sz) => e = .returned (.bool true) ∧ Opn w' g gj A n c l (p + sz) ∧ ∃ D', Jn w' D' gj (ls ++ [x]) ∧ (∀ y, D' y → D y ∨ w.heap.size ≤ y) ∧ Chg (fun y => y = g ∨ y = gj ∨ D y) w w'
theorem RecF.setok {w : World} {h g : Nat} {ok : Bool} {fr : Nat} {v0 v1 : Value} (x : RecF w h g ok fr v0 v1) (b : Bool) : RecF (w.setCell ⟨h + 1, 0, none⟩ (.bool b)) h g b fr v0 v1 :=
  have c := (Chg.refl (· = h + 1) w).setg 0 (.bool b)
  ⟨x.o.chg c (by omega), x.ok.set 0 _, x.fr.chg c (by omega), x.r.chg c (by omega)⟩
theorem RecF.setr {w : World} {h g : Nat} {ok : Bool} {fr : Nat} {v0 v1 : Value} (x : RecF w h g ok fr v0 v1) (u0 u1 : Value) : RecF ((w.setCell ⟨h + 3, 0, none⟩ u0).setCell ⟨h + 3, 1, none⟩ u1) h g ok fr u0 u1 :=
  have c := ((Chg.refl (· = h + 3) w).setg 0 u0).setg 1 u1
  ⟨x.o.chg c (by omega), x.ok.chg c (by omega), x.fr.chg c (by omega), (x.r.set 0 _).set 1 _⟩
/-- record's end where there is one -/
theorem recWin {g gj h : Nat} {D : Nat → Prop} {A : Option Addr} {n c : Nat} {l : List Int} {p q sz : Nat} {ls : List SecV} {R : Option (SecV × Nat)} {x : SecV} {b v0 v1 : Value} {tmps : Array Value} {w W : World} (ht : tmps[2]? = some (.pointer (some ⟨h + 1, 0, none⟩))) (hR : recRd (l.drop p) ls.length = R) (hn : recRd (l.drop p) ls.length = some (x, sz)) (hby : Byt l) (hx : RecF W h g false p v0 v1) (ho : Opn W g gj A n c l q) (hq : p + sz = q) (hj : Jn W D gj ls) (hbo : OwnB W b x.body) (hbn : ∀ y, b.ownBlock = some y → h ≤ y ∧ y ≠ h + 1 ∧ y ≠ h + 3)
    (hlen : (jnlBytes ls).length = p) (hc : Chg (· = g) w W) (hh : h = w.heap.size) (hg : g < h) (hgj : gj < h) (hD : ∀ y, D y → y < h) (hne : g ≠ gj) (hgD : ¬ D g) (hA : ∀ y, Value.ownBlock (.slice A n c) = some y → y < h) (hAD : ∀ y, Value.ownBlock (.slice A n c) = some y → ¬ (y = gj ∨ D y)) (hs : W.heap.size ≥ h) :
    Leaves Try.prog Try.f48 tmps (RecRes D g gj A n c l p ls w R) [{ target := .fn (.func 63) #[.pointer (some ⟨h + 1, 0, none⟩), .pointer (some ⟨h + 2, 0, none⟩), .pointer (some ⟨h, 0, none⟩), .pointer (some ⟨h + 3, 0, none⟩)], args := #[] }] .returning (((W.setCell ⟨h + 3, 0, none⟩ (.int .i64 x.id)).setCell ⟨h + 3, 1, none⟩ b).setCell ⟨h + 1, 0, none⟩ (.bool true)) := by
  obtain ⟨W1, hW1⟩ : ∃ W1, W1 = ((W.setCell ⟨h + 3, 0, none⟩ (.int .i64 x.id)).setCell ⟨h + 3, 1, none⟩ b).setCell ⟨h + 1, 0, none⟩ (.bool true) := ⟨_, rfl⟩
  have K : Chg (fun y => y = h + 1 ∨ y = h + 3) W W1 := by
    rw [hW1]
    exact (((Chg.refl (fun y => y = h + 1 ∨ y = h + 3) W).setCell (p := ⟨h + 3, 0, none⟩) (fun _ => .inr rfl) _).setCell (p := ⟨h + 3, 1, none⟩) (fun _ => .inr rfl) _).setCell (p := ⟨h + 1, 0, none⟩) (fun _ => .inl rfl) _
  have X : RecF W1 h g true p (.int .i64 x.id) b := by rw [hW1]; exact (hx.setr _ _).setok true
  have O : Opn W1 g gj A n c l q := ho.chg K (by omega) (fun y hy e => by have := hA y hy; omega)
  have J : Jn W1 D gj ls := hj.chg K (fun y e => ⟨fun hd => by have := hD y hd; omega, by omega⟩)
  have B : OwnB W1 b x.body := hbo.chg K (fun y hy e => by have := hbn y hy; omega)
  have C : Chg (· = g) w W1 := hc.trans K (fun y hy e => by omega)
  rw [← hW1]
  obtain ⟨g1, g2, g3, g4⟩ := recRd_form (byt_drop hby p) hn
  have hz : 0 < sz := by
    have := recHd_length ls.length x
    rw [g2, recEnc, List.length_append]
    have := sumB_length (vi (crc (recHd ls.length x)))
    omega
  have hlq : q ≤ 268435456 := Nat.le_trans ho.le ho.bound
  have hjl := jnlBytes_len ls
  refine leaves_cons (f := 63) (args := #[.pointer (some ⟨h + 1, 0, none⟩), .pointer (some ⟨h + 2, 0, none⟩), .pointer (some ⟨h, 0, none⟩), .pointer (some ⟨h + 3, 0, none⟩)]) (by simp) (by simp [go_sem]) ?_
  refine (recD_yes .returning (Lib.hid X) (Lib.hid O) (Lib.hid hq) hz (Lib.hid J) (Lib.hid B) (Lib.hid (fun y hy hd => by have := hD y hd; have := hbn y hy; omega)) (Lib.hid g3) (Lib.hid (by rw [hlen]; omega)) (by omega) hg hgj (Lib.hid hD) hne (Lib.hid hgD) (Lib.hid hAD)).mono ?_
  rintro e u' w' ⟨rfl, rfl, O', J', C', X'⟩
  have hcell := X'.ok.at_ (i := 0) rfl
  rw [hn] at hR
  subst hR hq
  have hsz := C.size
  have hfin : RecRes D g gj A n c l p ls w (some (x, sz)) (.returned (.bool true)) w' := ⟨rfl, O', _, J', fun y hy => by
    rcases hy with hy | hy | hy
    · exact .inl hy
    · have := hbn y hy
      exact .inr (by omega)
    · exact .inr (by omega), (C.mono (fun _ _ e => .inl e)).trans C' (fun _ _ e => .inr e)⟩
  simp [Leaves, settle, results, Try.results48, ht, hcell, go_sem]
  exact hfin
/-- a whole record, but for its sum -/
theorem rec_tail {l hd T : List Int} {n k p p2 p4 p5 p6 sz1 sz2 m : Nat} {z7 kd : Int} {ls : List SecV} (hd0 : (l.drop p)[0]? = some 167) (hd1 : urd ((l.drop p).drop 1) (ls.length : Int) = ((k : Int), sz1, 0)) (hk : k = ls.length) (hkd : (l.drop p)[1 + sz1]? = some kd) (hk0 : ¬ kd = 0) (hd2 : urd ((l.drop p).drop (2 + sz1)) 4194304 = ((m : Int), sz2, 0))
    (h2 : p + 1 + sz1 = p2) (h4 : p2 + 1 + sz2 = p4) (h5 : p4 + m = p5) (h6 : p5 + 4 = p6) (hn : n = l.length) (hf : ¬ n < p6) (hhd : hd = (l.drop p).take (p5 - p)) (hz : vi (crc hd) = z7) (hT : T = (l.drop p5).take 4) :
    (T ≠ sumB z7 → recRd (l.drop p) ls.length = none) ∧ (T = sumB z7 → recRd (l.drop p) ls.length = some (⟨kd, (l.drop p4).take m⟩, p6 - p)) := by
  have e1 : 2 + sz1 + sz2 + m = p5 - p := by omega
  have e2 : p + (p5 - p) = p5 := by omega
  have e3 : p + (2 + sz1 + sz2) = p4 := by omega
  have e4 : 2 + sz1 + sz2 + m + 4 = p6 - p := by omega
  have el : (l.drop p).length = n - p := by rw [List.length_drop, hn]
  constructor
  · intro hTe
    refine recRd_6 hd1 hd2 ?_
    rw [Int.toNat_natCast, e1, ← hhd, hz, List.drop_drop, e2, ← hT]
    exact hTe
  · intro hTe
    subst hk
    have := recRd_ok (l := l.drop p) (n := ls.length) hd0 hd1 hkd hk0 hd2 (by rw [Int.toNat_natCast, el]; omega) (by rw [Int.toNat_natCast, e1, ← hhd, hz, List.drop_drop, e2, ← hT]; exact hTe)
    rw [this, Int.toNat_natCast, List.drop_drop, e3, e4]
theorem strOf_injJ {l m : List Int} (hl : Byt l) (hm : Byt m) (h : strOf l = strOf m) : l = m := by rw [← bytesOf_strOf hl, h, bytesOf_strOf hm]
theorem str_beqJ {l m : List Int} (hl : Byt l) (hm : Byt m) : ((strOf l).toList == (strOf m).toList) = decide (l = m) := by
  by_cases h : l = m
  · rw [h]
    simp
  · rw [decide_eq_false h, beq_eq_false_iff_ne]
    intro e
    apply h
    apply strOf_injJ hl hm
    rw [Lib.toList_data, Lib.toList_data] at e
    exact ByteArray.ext (Array.toList_inj.1 e)
end Go.Proofs.Ytlnomadhgoblkaa.Kit
