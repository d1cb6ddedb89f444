/- The journal: the cursor's byte, number, rest, take. -/
import Derived.Test.YtlnomadhgoblkaaProg
import Derived.Test.YtlnomadhgoblkaaJq
import Derived.Test.YtlnomadhgoblkaaOctRh
set_option linter.unusedVariables false
set_option linter.unusedSimpArgs false
namespace Go.Proofs.Ytlnomadhgoblkaa.Kit
open Go.RowKit
/-- a journal that is read: in block g, at place p of l; what it fills in block gj -/
structure Opn (w : World) (g gj : Nat) (A : Option Addr) (n c : Nat) (l : List Int) (p : Nat) : Prop where
  blk : Blk w g 110 [.slice A n c, .int .i64 p, .pointer (some ⟨gj, 0, none⟩)]
  rd : Rd w .u8 A l
  len : n = l.length
  le : p ≤ n
  cap : n ≤ c
  mx : c ≤ maxLen
  bound : n ≤ 268435456
  ne : Value.ownBlock (.slice A n c) ≠ some g
  lo : ∀ y, Value.ownBlock (.slice A n c) = some y → y < w.heap.size
namespace Opn
variable {w w1 : World} {g gj : Nat} {A : Option Addr} {n c : Nat} {l : List Int} {p : Nat}
theorem chg {S : Nat → Prop} (h : Opn w g gj A n c l p) (k : Chg S w w1) (hg : ¬ S g) (hA : ∀ y, Value.ownBlock (.slice A n c) = some y → ¬ S y) : Opn w1 g gj A n c l p :=
  ⟨h.blk.chg k hg, h.rd.chg k (fun ad e _ => hA _ (by rw [e]; rfl)), h.len, h.le, h.cap, h.mx, h.bound, h.ne, fun y hy => Nat.lt_of_lt_of_le (h.lo y hy) k.size⟩
theorem chg0 (h : Opn w g gj A n c l p) (k : Chg (fun _ => False) w w1) : Opn w1 g gj A n c l p := h.chg k id (fun _ _ => id)
theorem drewN (h : Opn w g gj A n c l p) (q : Nat) : Opn (w.drewN q) g gj A n c l p := h.chg0 ((Chg.refl _ w).drewN q)
theorem move (h : Opn w g gj A n c l p) {q : Nat} (hq : q ≤ n) : Opn (w.setCell ⟨g, 1, none⟩ (.int .i64 q)) g gj A n c l q :=
  ⟨h.blk.set 1 _, h.rd.chg ((Chg.refl (· = g) w).setg 1 _) (fun ad e _ hh => h.ne (by rw [e, ← hh]; rfl)), h.len, hq, h.cap, h.mx, h.bound, h.ne, fun y hy => Nat.lt_of_lt_of_le (h.lo y hy) ((Chg.refl (· = g) w).setg 1 _).size⟩
end Opn
/-- urd looks at ten bytes alone -/
theorem vlp_take : ∀ (f i : Nat) (l : List Int) (x : Int), i + f = 10 → vlp (l.take 10) f i x = vlp l f i x
  | 0, i, l, x, hi => by
    have : (l.take 10).length < 10 ↔ l.length < 10 := by rw [List.length_take]; omega
    simp only [vlp, this]
  | f + 1, i, l, x, hi => by
    have h10 : (l.take 10).length < 10 ↔ l.length < 10 := by rw [List.length_take]; omega
    have hil : i < (l.take 10).length ↔ i < l.length := by rw [List.length_take]; omega
    have hg : (l.take 10).getD i 0 = l.getD i 0 := by
      rw [List.getD_eq_getElem?_getD, List.getD_eq_getElem?_getD, List.getElem?_take, if_pos (by omega)]
    simp only [vlp, h10, hil, hg, vlp_take f (i + 1) l _ (by omega)]
theorem urd_take (l : List Int) (limit : Int) : urd (l.take 10) limit = urd l limit := by
  unfold urd
  rw [vlp_take 10 0 l 0 rfl]
theorem byteNo {g gj : Nat} {A : Option Addr} {n c : Nat} {l : List Int} {p : Nat} {w : World} (h : Hid (Opn w g gj A n c l p)) (hp : n ≤ p) :
    Calls Try.prog 64 #[.pointer (some ⟨g, 0, none⟩)] w fun e w' => e = .returned (.tuple #[.int .u8 0, .bool false]) ∧ ∃ q, w' = w.drewN q := by
  have h0 := h.out.blk.at_ (i := 0) rfl
  have h1 := h.out.blk.at_ (i := 1) rfl
  have hb := h.out.bound
  have hle := h.out.le
  go_enter Try.func64, Try.ntmps64
  go_wp2_with fail
  go_quiet (fail)
  go_wp2_with fail
  go_ret2
  exact ⟨rfl, _, rfl⟩
theorem byteOk {g gj : Nat} {A : Option Addr} {n c : Nat} {l : List Int} {p : Nat} {b : Int} {w : World} (h : Hid (Opn w g gj A n c l p)) (hp : p < n) (hb : Hid (l[p]? = some b)) :
    Calls Try.prog 64 #[.pointer (some ⟨g, 0, none⟩)] w fun e w' => e = .returned (.tuple #[.int .u8 b, .bool true]) ∧ Opn w' g gj A n c l (p + 1) ∧ Chg (· = g) w w' := by
  have h0 := h.out.blk.at_ (i := 0) rfl
  have h1 := h.out.blk.at_ (i := 1) rfl
  have f1 := h.out.blk.frozen (i := 1) (by simp)
  have hbd := h.out.bound
  have hle := h.out.le
  have hcap := h.out.cap
  have hpl : p < l.length := by rw [← h.out.len]; exact hp
  obtain ⟨ad, rfl, hc⟩ := h.out.rd p hpl
  have hbe : l[p] = b := by
    have := hb.out
    rw [List.getElem?_eq_getElem hpl] at this
    injection this
  rw [hbe] at hc
  have b1 : (0 : Int) ≤ (p : Int) := by omega
  have b2 : (p : Int) < (n : Int) := by omega
  have E1 : IntKind.i64.wrap ((p : Int) + 1 - 1) = (p : Int) := by rw [IntWalk.i64_in _ (by omega)]; omega
  have E2 : (p : Int) + 1 - 1 = (p : Int) := by omega
  have HPL := Lib.hid hpl
  have HBE := Lib.hid hbe
  clear hbe hc
  go_enter Try.func64, Try.ntmps64
  go_wp2_with fail
  go_quiet (fail)
  go_wp2_with fail
  have e1 : ((p + 1 : Nat) : Int) = (p : Int) + 1 := by omega
  obtain ⟨w1, hw1⟩ : ∃ w1, w1 = (w.drewN nq).setCell ⟨g, 1, none⟩ (.int .i64 ((p : Int) + 1)) := ⟨_, rfl⟩
  have M : Hid (Opn w1 g gj (some ad) n c l (p + 1)) := by rw [hw1, ← e1]; exact (h.out.drewN nq).move (by omega)
  have C1 : Hid (Chg (· = g) w w1) := by rw [hw1]; exact ((Chg.refl (· = g) w).drewN nq).setg 1 _
  have m0 := M.out.blk.at_ (i := 0) rfl
  have m1 := M.out.blk.at_ (i := 1) rfl
  rw [e1] at m1
  have mc : w1.cell? (ad.add p) = some (.int .u8 b) := by
    obtain ⟨ad', e', hc'⟩ := M.out.rd p HPL.out
    injection e' with e'
    subst e'
    rw [hc', HBE.out]
  rw [← hw1]
  clear hw1 e1
  go_quiet (fail)
  go_wp2_with fail
  go_ret2
  exact ⟨rfl, M.out.drewN _, C1.out.drewN _⟩
attribute [local go_sem] min2_int min_two
set_option maxHeartbeats 3200000 in
/-- what a varint's reading leaves of the cursor -/
theorem numberC {g gj : Nat} {A : Option Addr} {n c : Nat} {l : List Int} {p p2 k : Nat} {limit x er : Int} {w : World} (h : Hid (Opn w g gj A n c l p)) (hu : Hid (urd (l.drop p) limit = (x, k, er))) (hp2 : Hid (p + k = p2)) (hb : Hid (Byt l)) :
    Calls Try.prog 65 #[.pointer (some ⟨g, 0, none⟩), .int .u64 limit] w fun e w' => e = .returned (.tuple #[.int .u64 x, .bool (er == 0)]) ∧ Opn w' g gj A n c l p2 ∧ Chg (· = g) w w' := by
  have h0 := h.out.blk.at_ (i := 0) rfl
  have h1 := h.out.blk.at_ (i := 1) rfl
  have f1 := h.out.blk.frozen (i := 1) (by simp)
  have hbd := h.out.bound
  have hle := h.out.le
  have hcap := h.out.cap
  have hmx := h.out.mx
  obtain ⟨q, hq⟩ : ∃ q, q = min n (p + 10) := ⟨_, rfl⟩
  have hqn : q ≤ n := by omega
  have hpq : p ≤ q := by omega
  have hqi : min (n : Int) ((p : Int) + 10) = (q : Int) := by omega
  have HT : Hid (q - p = ((l.drop p).take 10).length) := by rw [Hid, List.length_take, List.length_drop, ← h.out.len]; omega
  have HL : Hid (((l.drop p).take 10).length ≤ 140737488355328) := by rw [Hid, List.length_take]; omega
  have HU : Hid (urd (((l.drop p).take 10).drop 0) limit = (x, k, er)) := by rw [Hid, List.drop_zero, urd_take]; exact hu.out
  have HK0 : Hid (0 + k = k) := by rw [Hid]; omega
  have hkle : k ≤ n - p := by
    have := urd_nle (l.drop p) limit
    rw [hu.out, List.length_drop, ← h.out.len] at this
    exact this
  have b0 : (0 : Int) ≤ (p : Int) := by omega
  have b1 : (p : Int) ≤ (q : Int) := by omega
  have b2 : (q : Int) ≤ (n : Int) := by omega
  have b3 : (n : Int) ≤ (c : Int) := by omega
  have b4 : (q : Int) ≤ (c : Int) := by omega
  have HQ := Lib.hid hq
  clear hq
  have hsepA : Hid (∀ y, Value.ownBlock (.slice A n c) = some y → ¬ w.heap.size ≤ y) := fun y hy => by have := h.out.lo y hy; omega
  by_cases hcp : c = p
  · subst hcp
    have HNIL : Hid ((l.drop c).take 10 = []) := by rw [Hid, List.drop_of_length_le (by rw [← h.out.len]; omega), List.take_nil]
    have HR : Hid (∀ W, Chg (fun _ => False) w W → Rd W .u8 A ((l.drop c).take 10)) := fun W hW => by rw [HNIL.out]; intro i hi; simp at hi
    have E1 : IntKind.i64.wrap ((c : Int) + 10) = (c : Int) + 10 := IntWalk.i64_in _ (by omega)
    go_enter Try.func65, Try.ntmps65
    go_wp2_with fail
    go_region_held3 (fun w' => w'.cell? ⟨g, 0, none⟩ = some (.slice A n c) ∧ w'.cell? ⟨g, 1, none⟩ = some (.int .i64 c)) (first | exact ⟨h0, h1⟩ | exact ⟨(h.out.chg0 C1.out).blk.at_ (i := 0) rfl, (h.out.chg0 C1.out).blk.at_ (i := 1) rfl⟩ | go_keep) (first | (go_at_call 74; refine (newReader' HT HL (HR.out _ (by repeat (first | exact Chg.refl _ _ | refine Chg.drew ?_ | refine Chg.drewN ?_ _)))).mono ?_; rintro e w1 ⟨gr, vr, rfl, m1, m2, m3, m4⟩; have C1 : Hid (Chg (fun _ => False) w w1) := (show Chg (fun _ => False) w _ from by repeat (first | exact Chg.refl _ _ | refine Chg.drew ?_ | refine Chg.drewN ?_ _)).trans m4 (fun _ _ h => h); have RR := Lib.hid m1; have GR : Hid (w.heap.size ≤ gr) := m2; clear m1 m2 m3 m4))
    have J1 := Lib.hid (h.out.chg0 C1.out)
    go_wp2_with fail
    refine (uintTo HU HK0 RR).mono ?_
    rintro e w2 ⟨rfl, m1, m2⟩
    have J2 : Hid (Opn w2 g gj A n c l c) := J1.out.chg m2 (fun e => by have := GR.out; have := h.out.blk.lt; omega) (fun y hy e => by
      have h5 := GR.out
      have h6 := RR.out.blk
      subst e
      exact hsepA.out y hy (by omega))
    have C2 : Hid (Chg (fun _ => False) w w2) := C1.out.trans m2 (fun y hy e => by have := GR.out; omega)
    have RF : Hid (∀ W, Chg (fun _ => False) w2 W → Rdr W gr vr ((l.drop c).take 10) k) := fun W hW => m1.chg hW id (fun _ _ => id)
    have n1 := J2.out.blk.at_ (i := 1) rfl
    have nf := J2.out.blk.frozen (i := 1) (by simp)
    have E2 : IntKind.i64.wrap ((c : Int) + (k : Int)) = (c : Int) + (k : Int) := IntWalk.i64_in _ (by omega)
    have e12 : ((p2 : Nat) : Int) = (c : Int) + (k : Int) := by have := hp2.out; omega
    have HE12 := Lib.hid e12
    clear m1 m2 e12
    go_wp2_with fail
    go_region_with (first | (go_at_call 76; refine (place gr vr _ k _ (RF.out _ (by repeat (first | exact Chg.refl _ _ | refine Chg.drew ?_ | refine Chg.drewN ?_ _)))).mono ?_; rintro e w3 ⟨rfl, rfl⟩))
    all_goals
      go_wp2_with fail
      go_ret2
      rw [← HE12.out]
      exact ⟨rfl, ((J2.out.chg0 ((Chg.refl _ w2).drew)).move (by have := hp2.out; omega)), (((C2.out.drew).mono (fun _ _ h => h.elim)).setg 1 _)⟩
  · have HR : Hid (∀ W, Chg (fun _ => False) w W → Rd W .u8 (A.map (·.add p)) ((l.drop p).take 10)) := fun W hW => (rd_from (h.out.rd.chg hW (fun _ _ _ => id)) p).take 10
    have E1 : IntKind.i64.wrap ((p : Int) + 10) = (p : Int) + 10 := IntWalk.i64_in _ (by omega)
    go_enter Try.func65, Try.ntmps65
    go_wp2_with fail
    go_region_held3 (fun w' => w'.cell? ⟨g, 0, none⟩ = some (.slice A n c) ∧ w'.cell? ⟨g, 1, none⟩ = some (.int .i64 p)) (first | exact ⟨h0, h1⟩ | exact ⟨(h.out.chg0 C1.out).blk.at_ (i := 0) rfl, (h.out.chg0 C1.out).blk.at_ (i := 1) rfl⟩ | go_keep) (first | (go_at_call 74; refine (newReader' HT HL (HR.out _ (by repeat (first | exact Chg.refl _ _ | refine Chg.drew ?_ | refine Chg.drewN ?_ _)))).mono ?_; rintro e w1 ⟨gr, vr, rfl, m1, m2, m3, m4⟩; have C1 : Hid (Chg (fun _ => False) w w1) := (show Chg (fun _ => False) w _ from by repeat (first | exact Chg.refl _ _ | refine Chg.drew ?_ | refine Chg.drewN ?_ _)).trans m4 (fun _ _ h => h); have RR := Lib.hid m1; have GR : Hid (w.heap.size ≤ gr) := m2; clear m1 m2 m3 m4))
    have J1 := Lib.hid (h.out.chg0 C1.out)
    go_wp2_with fail
    refine (uintTo HU HK0 RR).mono ?_
    rintro e w2 ⟨rfl, m1, m2⟩
    have J2 : Hid (Opn w2 g gj A n c l p) := J1.out.chg m2 (fun e => by have := GR.out; have := h.out.blk.lt; omega) (fun y hy e => by
      have h5 := GR.out
      have h6 := RR.out.blk
      subst e
      exact hsepA.out y hy (by omega))
    have C2 : Hid (Chg (fun _ => False) w w2) := C1.out.trans m2 (fun y hy e => by have := GR.out; omega)
    have RF : Hid (∀ W, Chg (fun _ => False) w2 W → Rdr W gr vr ((l.drop p).take 10) k) := fun W hW => m1.chg hW id (fun _ _ => id)
    have n1 := J2.out.blk.at_ (i := 1) rfl
    have nf := J2.out.blk.frozen (i := 1) (by simp)
    have E2 : IntKind.i64.wrap ((p : Int) + (k : Int)) = (p : Int) + (k : Int) := IntWalk.i64_in _ (by omega)
    have e12 : ((p2 : Nat) : Int) = (p : Int) + (k : Int) := by have := hp2.out; omega
    have HE12 := Lib.hid e12
    clear m1 m2 e12
    go_wp2_with fail
    go_region_with (first | (go_at_call 76; refine (place gr vr _ k _ (RF.out _ (by repeat (first | exact Chg.refl _ _ | refine Chg.drew ?_ | refine Chg.drewN ?_ _)))).mono ?_; rintro e w3 ⟨rfl, rfl⟩))
    all_goals
      go_wp2_with fail
      go_ret2
      rw [← HE12.out]
      exact ⟨rfl, ((J2.out.chg0 ((Chg.refl _ w2).drew)).move (by have := hp2.out; omega)), (((C2.out.drew).mono (fun _ _ h => h.elim)).setg 1 _)⟩
/-- where a slice begins that is cut at p -/
def cutA (A : Option Addr) (c p : Nat) : Option Addr := if c = p then A else A.map (·.add p)
theorem restC {g gj : Nat} {A : Option Addr} {n c : Nat} {l : List Int} {p : Nat} {w : World} (h : Hid (Opn w g gj A n c l p)) :
    Calls Try.prog 77 #[.pointer (some ⟨g, 0, none⟩)] w fun e w' => (∃ A' c', e = .returned (.slice A' (n - p) c')) ∧ ∃ q, w' = w.drewN q := by
  have h0 := h.out.blk.at_ (i := 0) rfl
  have h1 := h.out.blk.at_ (i := 1) rfl
  have hbd := h.out.bound
  have hle := h.out.le
  have hcap := h.out.cap
  have hmx := h.out.mx
  have b0 : (0 : Int) ≤ (p : Int) := by omega
  have b1 : (p : Int) ≤ (n : Int) := by omega
  have b3 : (n : Int) ≤ (c : Int) := by omega
  by_cases hcp : c = p
  · go_enter Try.func77, Try.ntmps77
    go_wp2_with fail
    go_quiet (fail)
    go_wp2_with fail
    go_ret
    exact ⟨⟨_, _, rfl⟩, _, rfl⟩
  · go_enter Try.func77, Try.ntmps77
    go_wp2_with fail
    go_quiet (fail)
    go_wp2_with fail
    go_ret
    exact ⟨⟨_, _, rfl⟩, _, rfl⟩
theorem takeNo {g gj : Nat} {A : Option Addr} {n c : Nat} {l : List Int} {p : Nat} {m : Int} {w : World} (h : Hid (Opn w g gj A n c l p)) (hm : Hid ((n : Int) - p < m)) :
    Calls Try.prog 66 #[.pointer (some ⟨g, 0, none⟩), .int .i64 m] w fun e w' => e = .returned (.tuple #[.slice none 0 0, .bool false]) ∧ ∃ q, w' = w.drewN q := by
  have hle := h.out.le
  have hg : ((n - p : Nat) : Int) < m := by have := hm.out; omega
  have hg2 : m > ((n - p : Nat) : Int) := hg
  go_enter Try.func66, Try.ntmps66
  go_wp2_with fail
  refine (restC h).mono ?_
  rintro e w1 ⟨⟨A1, c1, rfl⟩, q, rfl⟩
  go_wp2_with fail
  go_ret2
  exact ⟨rfl, _, rfl⟩
end Go.Proofs.Ytlnomadhgoblkaa.Kit
