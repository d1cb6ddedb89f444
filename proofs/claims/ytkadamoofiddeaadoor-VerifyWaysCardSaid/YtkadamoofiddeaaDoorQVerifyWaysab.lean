/- Texts that the row leans on: PcA, PgE, PgF, PgG, PcB, Open, OpenG, OpenW, OpenE. -/
import Derived.Test.YtkadamoofiddeaaDoorProg
import Derived.Test.YtkadamoofiddeaaDoorQVerifyWaysaa
import Derived.Deep.QuietTactic
import Derived.Lib.Bytes
import Derived.Deep.Slices
import Derived.BigQuiet
import Derived.WalkLawsBesides
import Derived.SizedLaws
import Derived.ChangeSlices
import Derived.OpenShut
import Derived.Lib.Hide
import Derived.Deep.Fields
-- Canonical programs: letters; names of observables, currencies (lex).
set_option linter.unusedVariables false
set_option linter.unusedSimpArgs false
namespace Go.Proofs.YtkadamoofiddeaaDoor.Kit
open Go.RowKit
/-- b says whether P -/
def IsB (b : Bool) (P : Prop) : Prop := b = true ↔ P
theorem b_false {b : Bool} {P : Prop} (h : IsB b P) (n : ¬ P) : false = b := by
  cases b
  · rfl
  · exact absurd (h.1 rfl) n
theorem b_true {b : Bool} {P : Prop} (h : IsB b P) (n : P) : true = b := (h.2 n).symm
def bigI (x : Int) : Prop := 65 ≤ x ∧ x ≤ 90
def digI (x : Int) : Prop := 48 ≤ x ∧ x ≤ 57
def smlI (x : Int) : Prop := 97 ≤ x ∧ x ≤ 122
instance (x : Int) : Decidable (bigI x) := inferInstanceAs (Decidable (_ ∧ _))
instance (x : Int) : Decidable (digI x) := inferInstanceAs (Decidable (_ ∧ _))
instance (x : Int) : Decidable (smlI x) := inferInstanceAs (Decidable (_ ∧ _))
/-- the i-th byte -/
def bt (s : ByteArray) (i : Nat) : Int := if h : i < s.size then (s[i].toNat : Int) else 0
theorem bt_eq {s : ByteArray} {i : Nat} (h : i < s.size) : bt s i = (s[i].toNat : Int) := by rw [bt, dif_pos h]
/-- a name for an observable -/
def CapP (s : ByteArray) : Prop := 1 ≤ s.size ∧ s.size ≤ 31 ∧ bigI (bt s 0) ∧ ∀ i, i < s.size → bigI (bt s i) ∨ digI (bt s i) ∨ bt s i = 95
def CurP (s : ByteArray) : Prop := s.size = 3 ∧ bigI (bt s 0) ∧ bigI (bt s 1) ∧ bigI (bt s 2)
theorem lexBig {x : Int} {w : World} {b : Bool} (hb : Hid (decide (bigI x) = b)) : Calls Tryd.prog 69 #[.int .u8 x] w fun e w' => e = .returned (.bool b) ∧ w = w' := by
  by_cases h1 : 65 ≤ x
  · by_cases h2 : x ≤ 90
    · go_enter Tryd.func69, Tryd.ntmps69
      go_wp2_with fail
      go_ret
      exact ⟨ret_bool (by rw [← hb.out]; exact (decide_eq_true (show bigI x from ⟨h1, h2⟩)).symm), rfl⟩
    · have h3 : 90 < x := by omega
      go_enter Tryd.func69, Tryd.ntmps69
      go_wp2_with fail
      go_ret
      exact ⟨ret_bool (by rw [← hb.out]; exact (decide_eq_false (fun h : bigI x => by have := h.2; omega)).symm), rfl⟩
  · have h3 : x < 65 := by omega
    go_enter Tryd.func69, Tryd.ntmps69
    go_wp2_with fail
    go_ret
    exact ⟨ret_bool (by rw [← hb.out]; exact (decide_eq_false (fun h : bigI x => by have := h.1; omega)).symm), rfl⟩
theorem lexDigit {x : Int} {w : World} {b : Bool} (hb : Hid (decide (digI x) = b)) : Calls Tryd.prog 83 #[.int .u8 x] w fun e w' => e = .returned (.bool b) ∧ w = w' := by
  by_cases h1 : 48 ≤ x
  · by_cases h2 : x ≤ 57
    · go_enter Tryd.func83, Tryd.ntmps83
      go_wp2_with fail
      go_ret
      exact ⟨ret_bool (by rw [← hb.out]; exact (decide_eq_true (show digI x from ⟨h1, h2⟩)).symm), rfl⟩
    · have h3 : 57 < x := by omega
      go_enter Tryd.func83, Tryd.ntmps83
      go_wp2_with fail
      go_ret
      exact ⟨ret_bool (by rw [← hb.out]; exact (decide_eq_false (fun h : digI x => by have := h.2; omega)).symm), rfl⟩
  · have h3 : x < 48 := by omega
    go_enter Tryd.func83, Tryd.ntmps83
    go_wp2_with fail
    go_ret
    exact ⟨ret_bool (by rw [← hb.out]; exact (decide_eq_false (fun h : digI x => by have := h.1; omega)).symm), rfl⟩
set_option maxRecDepth 20000 in
set_option maxHeartbeats 1600000 in
theorem lexNamed {s : ByteArray} {w : World} {b : Bool} (hs : s.size ≤ 140737488355328) (hb : Hid (IsB b (CapP s))) : Calls Tryd.prog 68 #[.string s, .func (.func 69) #[] #[]] w fun e w' => e = .returned (.bool b) ∧ w = w' := by
  by_cases h1 : 1 ≤ s.size
  · have l0 : 0 < s.size := by omega
    have d1 : decide ((s.size : Int) < 1) = false := decide_eq_false (by omega)
    by_cases h31 : s.size ≤ 31
    · have d2 : ¬ (31 : Int) < (s.size : Int) := by omega
      obtain ⟨b0, hb0⟩ : ∃ b, decide (bigI (s[0].toNat : Int)) = b := ⟨_, rfl⟩
      have H0 := Lib.hid hb0
      clear hb0
      cases b0
      · go_enter Tryd.func68, Tryd.ntmps68
        go_wp2_with fail
        refine (lexBig H0).mono ?_
        rintro e w1 ⟨rfl, rfl⟩
        go_wp2_with fail
        go_ret
        exact ⟨ret_bool (b_false hb.out (fun h => by have h3 := h.2.2.1; rw [bt_eq l0] at h3; exact of_decide_eq_false H0.out h3)), rfl⟩
      · go_enter Tryd.func68, Tryd.ntmps68
        go_wp2_with fail
        refine (lexBig H0).mono ?_
        rintro e w1 ⟨rfl, rfl⟩
        go_wp2_with fail
        go_loop [5, 23] (fun _ i => ∃ k : Nat, k ≤ s.size ∧ i = .int .i64 k ∧ Hid (∀ j, j < k → bigI (bt s j) ∨ digI (bt s j) ∨ bt s j = 95)) (fun _ i => s.size - (intOf i).toNat)
        case atStart => exact ⟨0, Nat.zero_le _, rfl, fun j h => absurd h (by omega)⟩
        case round =>
          obtain ⟨k, hk, rfl, hh⟩ := hrel
          by_cases hlt : k < s.size
          · obtain ⟨bb, hbb⟩ : ∃ b, decide (bigI (s[k].toNat : Int)) = b := ⟨_, rfl⟩
            obtain ⟨bd, hbd⟩ : ∃ b, decide (digI (s[k].toNat : Int)) = b := ⟨_, rfl⟩
            obtain ⟨bu, hbu⟩ : ∃ b, decide ((s[k].toNat : Int) = 95) = b := ⟨_, rfl⟩
            have HBB := Lib.hid hbb
            have HBD := Lib.hid hbd
            have HBU := Lib.hid hbu
            have u1 : ((s[k].toNat : Int) != 95) = !bu := by rw [← hbu]; by_cases h : (s[k].toNat : Int) = 95 <;> simp [h]
            clear hbb hbd hbu
            have YES : Hid ((bb || bd || bu) = true → ∀ j, j < k + 1 → bigI (bt s j) ∨ digI (bt s j) ∨ bt s j = 95) := Lib.hid (fun ht j hj => by
              by_cases hjk : j < k
              · exact hh.out j hjk
              · obtain rfl : j = k := by omega
                rw [bt_eq hlt]
                rw [← HBB.out, ← HBD.out, ← HBU.out] at ht
                simpa [or_assoc] using ht)
            have NO : Hid ((bb || bd || bu) = false → ¬ CapP s) := Lib.hid (fun ht h => by
              have h3 := h.2.2.2 k hlt
              rw [bt_eq hlt] at h3
              rw [← HBB.out, ← HBD.out, ← HBU.out] at ht
              simp at ht
              rcases h3 with h3 | h3 | h3
              · exact ht.1.1 h3
              · exact ht.1.2 h3
              · exact ht.2 h3)
            cases bb
            · cases bd
              · cases bu
                · go_wp2_with fail
                  refine (lexBig HBB).mono ?_
                  rintro e w2 ⟨rfl, rfl⟩
                  go_wp2_with fail
                  refine (lexDigit HBD).mono ?_
                  rintro e w3 ⟨rfl, rfl⟩
                  go_wp2_with fail
                  go_ret
                  exact ⟨ret_bool (b_false hb.out (NO.out rfl)), rfl⟩
                · go_wp2_with fail
                  refine (lexBig HBB).mono ?_
                  rintro e w2 ⟨rfl, rfl⟩
                  go_wp2_with fail
                  refine (lexDigit HBD).mono ?_
                  rintro e w3 ⟨rfl, rfl⟩
                  go_wp2_with fail
                  go_round
                  case rel => exact ⟨k + 1, by omega, by go_num, YES.out rfl⟩
                  case measure => simp [intOf]; omega
              · go_wp2_with fail
                refine (lexBig HBB).mono ?_
                rintro e w2 ⟨rfl, rfl⟩
                go_wp2_with fail
                refine (lexDigit HBD).mono ?_
                rintro e w3 ⟨rfl, rfl⟩
                go_wp2_with fail
                go_round
                case rel => exact ⟨k + 1, by omega, by go_num, YES.out rfl⟩
                case measure => simp [intOf]; omega
            · go_wp2_with fail
              refine (lexBig HBB).mono ?_
              rintro e w2 ⟨rfl, rfl⟩
              go_wp2_with fail
              go_round
              case rel => exact ⟨k + 1, by omega, by go_num, YES.out (by simp)⟩
              case measure => simp [intOf]; omega
          · obtain rfl : k = s.size := by omega
            go_wp2_with fail
            go_ret
            exact ⟨ret_bool (b_true hb.out ⟨h1, h31, by rw [bt_eq l0]; exact of_decide_eq_true H0.out, hh.out⟩), rfl⟩
    · have d2 : (31 : Int) < (s.size : Int) := by omega
      go_enter Tryd.func68, Tryd.ntmps68
      go_wp2_with fail
      go_ret
      exact ⟨ret_bool (b_false hb.out (fun h => h31 h.2.1)), rfl⟩
  · have d1 : decide ((s.size : Int) < 1) = true := decide_eq_true (by omega)
    go_enter Tryd.func68, Tryd.ntmps68
    go_wp2_with fail
    go_ret
    exact ⟨ret_bool (b_false hb.out (fun h => h1 h.1)), rfl⟩
theorem lexCapital {s : ByteArray} {w : World} {b : Bool} (hs : s.size ≤ 140737488355328) (hb : Hid (IsB b (CapP s))) : Calls Tryd.prog 48 #[.string s] w fun e w' => e = .returned (.bool b) ∧ w = w' := by
  go_enter Tryd.func48, Tryd.ntmps48
  go_wp2_with fail
  refine (lexNamed hs hb).mono ?_
  rintro e w1 ⟨rfl, rfl⟩
  go_wp2_with fail
  go_ret
  exact ⟨rfl, rfl⟩
set_option maxRecDepth 20000 in
theorem lexCurrency {s : ByteArray} {w : World} {b : Bool} (hb : Hid (IsB b (CurP s))) : Calls Tryd.prog 50 #[.string s] w fun e w' => e = .returned (.bool b) ∧ w = w' := by
  by_cases hs : s.size = 3
  · have hs' : ((s.size : Int) == 3) = true := by simp [hs]
    have l0 : 0 < s.size := by omega
    have l1 : 1 < s.size := by omega
    have l2 : 2 < s.size := by omega
    have HS := Lib.hid hs
    clear hs
    obtain ⟨b0, hb0⟩ : ∃ b, decide (bigI (s[0].toNat : Int)) = b := ⟨_, rfl⟩
    obtain ⟨b1, hb1⟩ : ∃ b, decide (bigI (s[1].toNat : Int)) = b := ⟨_, rfl⟩
    obtain ⟨b2, hb2⟩ : ∃ b, decide (bigI (s[2].toNat : Int)) = b := ⟨_, rfl⟩
    have H0 := Lib.hid hb0
    have H1 := Lib.hid hb1
    have H2 := Lib.hid hb2
    clear hb0 hb1 hb2
    have HB : Hid ((b0 && b1 && b2) = b) := Lib.hid (by
      have h3 : CurP s ↔ (b0 && b1 && b2) = true := by
        rw [CurP, bt_eq l0, bt_eq l1, bt_eq l2, ← H0.out, ← H1.out, ← H2.out]
        simp [HS.out, and_assoc]
      rw [Bool.eq_iff_iff, ← h3]
      exact hb.out.symm)
    cases b0
    · go_enter Tryd.func50, Tryd.ntmps50
      go_wp2_with fail
      refine (lexBig H0).mono ?_
      rintro e w0 ⟨rfl, rfl⟩
      go_wp2_with fail
      go_ret
      exact ⟨ret_bool (by rw [← HB.out]; simp), rfl⟩
    cases b1
    · go_enter Tryd.func50, Tryd.ntmps50
      go_wp2_with fail
      refine (lexBig H0).mono ?_
      rintro e w0 ⟨rfl, rfl⟩
      go_wp2_with fail
      refine (lexBig H1).mono ?_
      rintro e w1 ⟨rfl, rfl⟩
      go_wp2_with fail
      go_ret
      exact ⟨ret_bool (by rw [← HB.out]; simp), rfl⟩
    cases b2
    · go_enter Tryd.func50, Tryd.ntmps50
      go_wp2_with fail
      refine (lexBig H0).mono ?_
      rintro e w0 ⟨rfl, rfl⟩
      go_wp2_with fail
      refine (lexBig H1).mono ?_
      rintro e w1 ⟨rfl, rfl⟩
      go_wp2_with fail
      refine (lexBig H2).mono ?_
      rintro e w2 ⟨rfl, rfl⟩
      go_wp2_with fail
      go_ret
      exact ⟨ret_bool (by rw [← HB.out]; simp), rfl⟩
    go_enter Tryd.func50, Tryd.ntmps50
    go_wp2_with fail
    refine (lexBig H0).mono ?_
    rintro e w0 ⟨rfl, rfl⟩
    go_wp2_with fail
    refine (lexBig H1).mono ?_
    rintro e w1 ⟨rfl, rfl⟩
    go_wp2_with fail
    refine (lexBig H2).mono ?_
    rintro e w2 ⟨rfl, rfl⟩
    go_wp2_with fail
    go_ret
    exact ⟨ret_bool (by rw [← HB.out]; simp), rfl⟩
  · have hs' : ((s.size : Int) == 3) = false := by simp; omega
    have HS := Lib.hid hs
    clear hs
    go_enter Tryd.func50, Tryd.ntmps50
    go_wp2_with fail
    go_ret
    exact ⟨ret_bool (b_false hb.out (fun h => HS.out h.1)), rfl⟩
end Go.Proofs.YtkadamoofiddeaaDoor.Kit
-- Programs: lists that are the same.
set_option linter.unusedVariables false
set_option linter.unusedSimpArgs false
namespace Go.Proofs.YtkadamoofiddeaaDoor.Kit
open Go.RowKit
theorem take_nextG {α : Type} {l m : List α} {k : Nat} (h : l.take k = m.take k) (h1 : k < l.length) (h2 : k < m.length) (he : l[k] = m[k]) : l.take (k + 1) = m.take (k + 1) := by
  rw [List.take_succ_eq_append_getElem h1, List.take_succ_eq_append_getElem h2, h, he]
theorem strToList_inj {s t : ByteArray} (h : s.toList = t.toList) : s = t := by
  rw [Lib.toList_data, Lib.toList_data] at h
  cases s
  cases t
  simp only [ByteArray.mk.injEq]
  exact Array.toList_inj.1 h
theorem add1 (ad : Addr) (i : Nat) : (⟨(ad.add i).block, (ad.add i).off + 1, none⟩ : Addr) = ad.add (i + 1) := by
  rw [show (⟨(ad.add i).block, (ad.add i).off + 1, none⟩ : Addr) = (ad.add i).add 1 from rfl, Go.Deep.add_add]
theorem add2 (ad : Addr) (i : Nat) : (⟨(ad.add i).block, (ad.add i).off + 2, none⟩ : Addr) = ad.add (i + 2) := by
  rw [show (⟨(ad.add i).block, (ad.add i).off + 2, none⟩ : Addr) = (ad.add i).add 2 from rfl, Go.Deep.add_add]
set_option maxRecDepth 20000 in
set_option maxHeartbeats 1600000 in
theorem eqTexts {A B : Option Addr} {n m c d : Nat} {l k : List ByteArray} {w : World} {b : Bool} (HN : Hid (n = l.length)) (HM : Hid (m = k.length)) (hn : n ≤ 140737488355328) (hm : m ≤ 140737488355328) (hr : Hid (RdG w A (strs l))) (hk : Hid (RdG w B (strs k))) (hb : Hid (decide (l = k) = b)) :
    Calls Tryd.prog 43 #[.slice A n c, .slice B m d] w fun e w' => e = .returned (.bool b) ∧ ∃ n, w' = w.drewN n := by
  by_cases he : n = m
  · subst he
    have e1 : ((n : Int) != (n : Int)) = false := by simp
    have e2 : ((n : Int) == (n : Int)) = true := by simp
    go_enter Tryd.func43, Tryd.ntmps43
    go_wp2
    go_loopw [5] (fun i wr => ∃ q : Nat, q ≤ n ∧ i = .int .i64 q ∧ Hid (l.take q = k.take q) ∧ ∃ n, wr = w.drewN n) (fun i _ => n - (intOf i).toNat)
    case atStart => exact ⟨0, Nat.zero_le _, rfl, rfl, 0, rfl⟩
    case round =>
      obtain ⟨q, hq, rfl, ht, nd, rfl⟩ := hrel
      by_cases hlt : q < n
      · have h1 : q < l.length := by have := HN.out; omega
        have h2 : q < k.length := by have := HM.out; omega
        obtain ⟨a1, rfl, hc1⟩ := hr.out q _ (strs_get l q h1)
        obtain ⟨a2, rfl, hc2⟩ := hk.out q _ (strs_get k q h2)
        obtain ⟨x, hx0⟩ : ∃ x, x = l[q] := ⟨_, rfl⟩
        obtain ⟨y, hy0⟩ : ∃ y, y = k[q] := ⟨_, rfl⟩
        rw [← hx0] at hc1
        rw [← hy0] at hc2
        have b1 : (0 : Int) ≤ (q : Int) := by omega
        have b2 : (q : Int) < (n : Int) := by omega
        by_cases hx : x = y
        · subst hx
          have HX : Hid (l[q] = k[q]) := by rw [Hid, ← hx0, ← hy0]
          clear hx0 hy0
          have q1 : (x.toList == x.toList) = true := by simp
          have q2 : (x.toList != x.toList) = false := by simp
          go_wp2_with fail
          go_quiet (fail)
          go_wp2
          go_roundw
          case rel => exact ⟨q + 1, by omega, by go_num, take_nextG ht.out h1 h2 HX.out, _, rfl⟩
          case measure => simp [intOf]; omega
        · have HX : Hid (l[q] ≠ k[q]) := by rw [Hid, ← hx0, ← hy0]; exact hx
          clear hx0 hy0
          have q1 : (x.toList == y.toList) = false := by
            rw [beq_eq_false_iff_ne]
            exact fun h => hx (strToList_inj h)
          have q2 : (x.toList != y.toList) = true := by rw [bne, q1]; rfl
          clear hx
          go_wp2_with fail
          go_quiet (fail)
          go_wp2
          go_ret
          refine ⟨ret_bool (Eq.trans (decide_eq_false (fun h => HX.out ?_)).symm hb.out), _, World.drewN_drewN ..⟩
          subst h
          rfl
      · go_wp2
        go_ret
        refine ⟨ret_bool (Eq.trans (decide_eq_true ?_).symm hb.out), _, rfl⟩
        have := ht.out
        rw [List.take_of_length_le (by have := HN.out; omega), List.take_of_length_le (by have := HM.out; omega)] at this
        exact this
  · have e1 : ((n : Int) != (m : Int)) = true := by simp; omega
    have HE := Lib.hid he
    clear he
    go_enter Tryd.func43, Tryd.ntmps43
    go_wp2
    go_ret
    exact ⟨ret_bool (Eq.trans (decide_eq_false (fun h => HE.out (by rw [HN.out, HM.out, h]))).symm hb.out), 0, rfl⟩
end Go.Proofs.YtkadamoofiddeaaDoor.Kit
-- Programs: days that are the same; Equal, the program's and the document's.
set_option linter.unusedVariables false
set_option linter.unusedSimpArgs false
namespace Go.Proofs.YtkadamoofiddeaaDoor.Kit
open Go.RowKit
/-- a list of days that is read -/
structure RdDays (w : World) (A : Option Addr) (l : List SegV) (vs : List Value) : Prop where
  rd : RdG w A (dayCells l vs)
  len : l.length = vs.length
  code : ∀ i (h : i < l.length) (h' : i < vs.length), SlG w vs[i] 3 l[i].code.length (insCells l[i].code)
theorem RdDays.chg0 {w w1 : World} {A : Option Addr} {l : List SegV} {vs : List Value} (h : RdDays w A l vs) (c : Chg (fun _ => False) w w1) : RdDays w1 A l vs := ⟨h.rd.chg0 c, h.len, fun i hi hi' => (h.code i hi hi').chg0 c⟩
theorem RdDays.at_ {w : World} {A : Option Addr} {l : List SegV} {vs : List Value} (h : RdDays w A l vs) {i : Nat} (hi : i < l.length) : ∃ ad B n c, A = some ad ∧ w.cell? (ad.add (i * 2)) = some (.int .i64 l[i].day) ∧ w.cell? ⟨(ad.add (i * 2)).block, (ad.add (i * 2)).off + 1, none⟩ = some (.slice B n c) ∧
    n = l[i].code.length ∧ n ≤ c ∧ c ≤ maxLen ∧ RdG w B (insCells l[i].code) := by
  have h2 : i < vs.length := by rw [← h.len]; exact hi
  obtain ⟨g1, g2⟩ := dayCells_get l vs i hi h2
  obtain ⟨ad, e1, c1⟩ := h.rd _ _ g1
  obtain ⟨ad', e2, c2⟩ := h.rd _ _ g2
  rw [e1] at e2
  injection e2 with e2
  subst e2
  obtain ⟨B, c, hv, hc, hm, hr⟩ := (h.code i hi h2).ex
  refine ⟨ad, B, _, c, e1, c1, ?_, rfl, hc, hm, hr⟩
  rw [add1, c2, hv]
end Go.Proofs.YtkadamoofiddeaaDoor.Kit
-- Programs: Equal, the program's and the document's.
set_option linter.unusedVariables false
set_option linter.unusedSimpArgs false
namespace Go.Proofs.YtkadamoofiddeaaDoor.Kit
open Go.RowKit
/-- a program's slices, taken apart -/
structure ProgW (w : World) (s : ProgS) (p : ProgV) (nn nc nk nd : Nat) (An Ac Ak Ad : Option Addr) (cn cc ck cd : Nat) : Prop where
  eq : progVal s p = .agg #[.slice An nn cn, .slice Ac nc cc, .slice Ak nk ck, .int .i64 p.horizon, .int .i64 p.cells, .int .i64 p.slots, .int .i64 p.stack, .slice Ad nd cd]
  ln : nn = p.names.length
  lc : nc = p.curs.length
  lk : nk = p.pool.length
  ld : nd = p.days.length
  hn : nn ≤ cn
  hc : nc ≤ cc
  hk : nk ≤ ck
  hd : nd ≤ cd
  mn : cn ≤ maxLen
  mc : cc ≤ maxLen
  mp : ck ≤ maxLen
  md : cd ≤ maxLen
  rn : RdG w An (strs p.names)
  rc : RdG w Ac (strs p.curs)
  rk : RdG w Ak (nums .i64 p.pool)
  rd : RdDays w Ad p.days s.codes
theorem RdProg.apart {w : World} {s : ProgS} {p : ProgV} (h : RdProg w s p) : ∃ nn nc nk nd An Ac Ak Ad cn cc ck cd, ProgW w s p nn nc nk nd An Ac Ak Ad cn cc ck cd := by
  obtain ⟨An, cn, e1, h1, m1, r1⟩ := h.names.ex
  obtain ⟨Ac, cc, e2, h2, m2, r2⟩ := h.curs.ex
  obtain ⟨Ak, ck, e3, h3, m3, r3⟩ := h.pool.ex
  obtain ⟨Ad, cd, e4, h4, m4, r4⟩ := h.days.ex
  exact ⟨_, _, _, _, An, Ac, Ak, Ad, cn, cc, ck, cd, by rw [progVal, e1, e2, e3, e4], rfl, rfl, rfl, rfl, h1, h2, h3, h4, m1, m2, m3, m4, r1, r2, r3, r4, h.lenC, h.code⟩
theorem ProgW.chg0 {w w1 : World} {s : ProgS} {p : ProgV} {nn nc nk nd : Nat} {An Ac Ak Ad : Option Addr} {cn cc ck cd : Nat} (h : ProgW w s p nn nc nk nd An Ac Ak Ad cn cc ck cd) (c : Chg (fun _ => False) w w1) : ProgW w1 s p nn nc nk nd An Ac Ak Ad cn cc ck cd :=
  ⟨h.eq, h.ln, h.lc, h.lk, h.ld, h.hn, h.hc, h.hk, h.hd, h.mn, h.mc, h.mp, h.md, h.rn.chg0 c, h.rc.chg0 c, h.rk.chg0 c, h.rd.chg0 c⟩
theorem prog_eq (p q : ProgV) : decide (p = q) = (decide (p.names = q.names) && decide (p.curs = q.curs) && decide (p.pool = q.pool) && decide (p.horizon = q.horizon) && decide (p.cells = q.cells) && decide (p.slots = q.slots) && decide (p.stack = q.stack) && decide (p.days = q.days)) := by
  obtain ⟨a, b, c, d, e, f, g, h⟩ := p
  obtain ⟨a', b', c', d', e', f', g', h'⟩ := q
  rw [Bool.eq_iff_iff]
  simp [and_assoc]
theorem ints_eq {x y : Int} {b : Bool} (h : decide (x = y) = b) : (x == y) = b ∧ (x != y) = !b := by
  subst h
  by_cases h : x = y <;> simp [h]
theorem small_codes {p : ProgV} (h : SmallP p) : ∀ x ∈ p.days, x.code.length ≤ 140737488355328 := fun x hx => by have := h.code x hx; omega
set_option maxRecDepth 20000 in
set_option maxHeartbeats 3200000 in
theorem refEqual {s t : ProgS} {p q : ProgV} {w : World} {b : Bool} (hp : Hid (RdProg w s p)) (hq : Hid (RdProg w t q)) (sp : SmallP p) (sq : SmallP q) (hb : Hid (decide (p = q) = b)) :
    Calls Tryd.prog 22 #[progVal s p, progVal t q] w fun e w' => e = .returned (.bool b) ∧ Chg (fun _ => False) w w' := by
  obtain ⟨n1, n2, n3, n4, A1, A2, A3, A4, c1, c2, c3, c4, HP0⟩ := hp.out.apart
  obtain ⟨m1, m2, m3, m4, B1, B2, B3, B4, d1, d2, d3, d4, HQ0⟩ := hq.out.apart
  have HP := Lib.hid HP0
  have HQ := Lib.hid HQ0
  rw [HP.out.eq, HQ.out.eq]
  have S1 : n1 ≤ 140737488355328 := by have := HP0.ln; have := sp.names; omega
  have S2 : n2 ≤ 140737488355328 := by have := HP0.lc; have := sp.curs; omega
  have S3 : n3 ≤ 140737488355328 := by have := HP0.lk; have := sp.pool; omega
  have S4 : n4 ≤ 140737488355328 := by have := HP0.ld; have := sp.days; omega
  have T1 : m1 ≤ 140737488355328 := by have := HQ0.ln; have := sq.names; omega
  have T2 : m2 ≤ 140737488355328 := by have := HQ0.lc; have := sq.curs; omega
  have T3 : m3 ≤ 140737488355328 := by have := HQ0.lk; have := sq.pool; omega
  have T4 : m4 ≤ 140737488355328 := by have := HQ0.ld; have := sq.days; omega
  have SC := Lib.hid (small_codes sp)
  have TC := Lib.hid (small_codes sq)
  obtain ⟨b1, hb1⟩ : ∃ b, decide (p.horizon = q.horizon) = b := ⟨_, rfl⟩
  obtain ⟨b2, hb2⟩ : ∃ b, decide (p.cells = q.cells) = b := ⟨_, rfl⟩
  obtain ⟨b3, hb3⟩ : ∃ b, decide (p.slots = q.slots) = b := ⟨_, rfl⟩
  obtain ⟨b4, hb4⟩ : ∃ b, decide (p.stack = q.stack) = b := ⟨_, rfl⟩
  obtain ⟨b5, hb5⟩ : ∃ b, decide (p.names = q.names) = b := ⟨_, rfl⟩
  obtain ⟨b6, hb6⟩ : ∃ b, decide (p.curs = q.curs) = b := ⟨_, rfl⟩
  obtain ⟨b7, hb7⟩ : ∃ b, decide (p.pool = q.pool) = b := ⟨_, rfl⟩
  obtain ⟨b8, hb8⟩ : ∃ b, decide (p.days = q.days) = b := ⟨_, rfl⟩
  have HB : Hid ((b5 && b6 && b7 && b1 && b2 && b3 && b4 && b8) = b) := Lib.hid (by rw [← hb.out, prog_eq, hb1, hb2, hb3, hb4, hb5, hb6, hb7, hb8])
  obtain ⟨x1, y1⟩ := ints_eq hb1
  obtain ⟨x2, y2⟩ := ints_eq hb2
  obtain ⟨x3, y3⟩ := ints_eq hb3
  obtain ⟨x4, y4⟩ := ints_eq hb4
  obtain ⟨i1, hi1⟩ : ∃ x, x = p.horizon := ⟨_, rfl⟩
  obtain ⟨i2, hi2⟩ : ∃ x, x = p.cells := ⟨_, rfl⟩
  obtain ⟨i3, hi3⟩ : ∃ x, x = p.slots := ⟨_, rfl⟩
  obtain ⟨i4, hi4⟩ : ∃ x, x = p.stack := ⟨_, rfl⟩
  obtain ⟨j1, hj1⟩ : ∃ x, x = q.horizon := ⟨_, rfl⟩
  obtain ⟨j2, hj2⟩ : ∃ x, x = q.cells := ⟨_, rfl⟩
  obtain ⟨j3, hj3⟩ : ∃ x, x = q.slots := ⟨_, rfl⟩
  obtain ⟨j4, hj4⟩ : ∃ x, x = q.stack := ⟨_, rfl⟩
  rw [← hi1, ← hi2, ← hi3, ← hi4, ← hj1, ← hj2, ← hj3, ← hj4]
  rw [← hi1, ← hj1] at x1 y1
  rw [← hi2, ← hj2] at x2 y2
  rw [← hi3, ← hj3] at x3 y3
  rw [← hi4, ← hj4] at x4 y4
  have H5 := Lib.hid hb5
  have H6 := Lib.hid hb6
  have H7 := Lib.hid hb7
  have H8 := Lib.hid hb8
  have LN := Lib.hid HP0.ln
  have LC := Lib.hid HP0.lc
  have LK := Lib.hid HP0.lk
  have LD := Lib.hid HP0.ld
  have MN := Lib.hid HQ0.ln
  have MC := Lib.hid HQ0.lc
  have MK := Lib.hid HQ0.lk
  have MD := Lib.hid HQ0.ld
  clear hb1 hb2 hb3 hb4 hb5 hb6 hb7 hb8 hi1 hi2 hi3 hi4 hj1 hj2 hj3 hj4 HP0 HQ0
  cases b5
  · go_enter Tryd.func22, Tryd.ntmps22
    go_wp2_with fail
    refine (eqTexts LN MN S1 T1 (HP.out.rn.chg0 (by repeat (first | exact Chg.refl _ _ | exact C1.out | refine Chg.drew ?_ | refine Chg.drewN ?_ _ | refine Chg.alloc ?_ _))) (HQ.out.rn.chg0 (by repeat (first | exact Chg.refl _ _ | exact C1.out | refine Chg.drew ?_ | refine Chg.drewN ?_ _ | refine Chg.alloc ?_ _))) H5).mono ?_
    rintro e w5 ⟨rfl, nq5, rfl⟩
    go_wp2_with fail
    refine (eqTexts LC MC S2 T2 (HP.out.rc.chg0 (by repeat (first | exact Chg.refl _ _ | exact C1.out | refine Chg.drew ?_ | refine Chg.drewN ?_ _ | refine Chg.alloc ?_ _))) (HQ.out.rc.chg0 (by repeat (first | exact Chg.refl _ _ | exact C1.out | refine Chg.drew ?_ | refine Chg.drewN ?_ _ | refine Chg.alloc ?_ _))) H6).mono ?_
    rintro e w6 ⟨rfl, nq6, rfl⟩
    go_wp2_with fail
    go_ret
    exact ⟨ret_bool (by rw [← HB.out]; simp), (show Chg (fun _ => False) w _ from by repeat (first | exact Chg.refl _ _ | exact C1.out | refine Chg.drew ?_ | refine Chg.drewN ?_ _ | refine Chg.alloc ?_ _))⟩
  cases b6
  · go_enter Tryd.func22, Tryd.ntmps22
    go_wp2_with fail
    refine (eqTexts LN MN S1 T1 (HP.out.rn.chg0 (by repeat (first | exact Chg.refl _ _ | exact C1.out | refine Chg.drew ?_ | refine Chg.drewN ?_ _ | refine Chg.alloc ?_ _))) (HQ.out.rn.chg0 (by repeat (first | exact Chg.refl _ _ | exact C1.out | refine Chg.drew ?_ | refine Chg.drewN ?_ _ | refine Chg.alloc ?_ _))) H5).mono ?_
    rintro e w5 ⟨rfl, nq5, rfl⟩
    go_wp2_with fail
    refine (eqTexts LC MC S2 T2 (HP.out.rc.chg0 (by repeat (first | exact Chg.refl _ _ | exact C1.out | refine Chg.drew ?_ | refine Chg.drewN ?_ _ | refine Chg.alloc ?_ _))) (HQ.out.rc.chg0 (by repeat (first | exact Chg.refl _ _ | exact C1.out | refine Chg.drew ?_ | refine Chg.drewN ?_ _ | refine Chg.alloc ?_ _))) H6).mono ?_
    rintro e w6 ⟨rfl, nq6, rfl⟩
    go_wp2_with fail
    go_ret
    exact ⟨ret_bool (by rw [← HB.out]; simp), (show Chg (fun _ => False) w _ from by repeat (first | exact Chg.refl _ _ | exact C1.out | refine Chg.drew ?_ | refine Chg.drewN ?_ _ | refine Chg.alloc ?_ _))⟩
  by_cases hl3 : n3 = m3
  rotate_left
  · have e3 : ((n3 : Int) != (m3 : Int)) = true := by simp; omega
    have HE := Lib.hid hl3
    clear hl3
    go_enter Tryd.func22, Tryd.ntmps22
    go_wp2_with fail
    refine (eqTexts LN MN S1 T1 (HP.out.rn.chg0 (by repeat (first | exact Chg.refl _ _ | exact C1.out | refine Chg.drew ?_ | refine Chg.drewN ?_ _ | refine Chg.alloc ?_ _))) (HQ.out.rn.chg0 (by repeat (first | exact Chg.refl _ _ | exact C1.out | refine Chg.drew ?_ | refine Chg.drewN ?_ _ | refine Chg.alloc ?_ _))) H5).mono ?_
    rintro e w5 ⟨rfl, nq5, rfl⟩
    go_wp2_with fail
    refine (eqTexts LC MC S2 T2 (HP.out.rc.chg0 (by repeat (first | exact Chg.refl _ _ | exact C1.out | refine Chg.drew ?_ | refine Chg.drewN ?_ _ | refine Chg.alloc ?_ _))) (HQ.out.rc.chg0 (by repeat (first | exact Chg.refl _ _ | exact C1.out | refine Chg.drew ?_ | refine Chg.drewN ?_ _ | refine Chg.alloc ?_ _))) H6).mono ?_
    rintro e w6 ⟨rfl, nq6, rfl⟩
    go_wp2_with fail
    go_ret
    exact ⟨ret_bool (Eq.trans (decide_eq_false (fun h => HE.out (by rw [LK.out, MK.out, h]))).symm hb.out), (show Chg (fun _ => False) w _ from by repeat (first | exact Chg.refl _ _ | exact C1.out | refine Chg.drew ?_ | refine Chg.drewN ?_ _ | refine Chg.alloc ?_ _))⟩
  have HL3 := Lib.hid hl3
  have e3 : ((n3 : Int) != (m3 : Int)) = false := by simp [hl3]
  clear hl3
  by_cases hl4 : n4 = m4
  rotate_left
  · have e4 : ((n4 : Int) != (m4 : Int)) = true := by simp; omega
    have HE := Lib.hid hl4
    clear hl4
    go_enter Tryd.func22, Tryd.ntmps22
    go_wp2_with fail
    refine (eqTexts LN MN S1 T1 (HP.out.rn.chg0 (by repeat (first | exact Chg.refl _ _ | exact C1.out | refine Chg.drew ?_ | refine Chg.drewN ?_ _ | refine Chg.alloc ?_ _))) (HQ.out.rn.chg0 (by repeat (first | exact Chg.refl _ _ | exact C1.out | refine Chg.drew ?_ | refine Chg.drewN ?_ _ | refine Chg.alloc ?_ _))) H5).mono ?_
    rintro e w5 ⟨rfl, nq5, rfl⟩
    go_wp2_with fail
    refine (eqTexts LC MC S2 T2 (HP.out.rc.chg0 (by repeat (first | exact Chg.refl _ _ | exact C1.out | refine Chg.drew ?_ | refine Chg.drewN ?_ _ | refine Chg.alloc ?_ _))) (HQ.out.rc.chg0 (by repeat (first | exact Chg.refl _ _ | exact C1.out | refine Chg.drew ?_ | refine Chg.drewN ?_ _ | refine Chg.alloc ?_ _))) H6).mono ?_
    rintro e w6 ⟨rfl, nq6, rfl⟩
    go_wp2_with fail
    go_ret
    exact ⟨ret_bool (Eq.trans (decide_eq_false (fun h => HE.out (by rw [LD.out, MD.out, h]))).symm hb.out), (show Chg (fun _ => False) w _ from by repeat (first | exact Chg.refl _ _ | exact C1.out | refine Chg.drew ?_ | refine Chg.drewN ?_ _ | refine Chg.alloc ?_ _))⟩
  have HL4 := Lib.hid hl4
  have e4 : ((n4 : Int) != (m4 : Int)) = false := by simp [hl4]
  clear hl4
  go_enter Tryd.func22, Tryd.ntmps22
  go_wp2_with fail
  refine (eqTexts LN MN S1 T1 (HP.out.rn.chg0 (by repeat (first | exact Chg.refl _ _ | exact C1.out | refine Chg.drew ?_ | refine Chg.drewN ?_ _ | refine Chg.alloc ?_ _))) (HQ.out.rn.chg0 (by repeat (first | exact Chg.refl _ _ | exact C1.out | refine Chg.drew ?_ | refine Chg.drewN ?_ _ | refine Chg.alloc ?_ _))) H5).mono ?_
  rintro e w5 ⟨rfl, nq5, rfl⟩
  go_wp2_with fail
  refine (eqTexts LC MC S2 T2 (HP.out.rc.chg0 (by repeat (first | exact Chg.refl _ _ | exact C1.out | refine Chg.drew ?_ | refine Chg.drewN ?_ _ | refine Chg.alloc ?_ _))) (HQ.out.rc.chg0 (by repeat (first | exact Chg.refl _ _ | exact C1.out | refine Chg.drew ?_ | refine Chg.drewN ?_ _ | refine Chg.alloc ?_ _))) H6).mono ?_
  rintro e w6 ⟨rfl, nq6, rfl⟩
  go_wp2_with fail
  go_loopw [7] (fun i wr => ∃ k : Nat, k ≤ n3 ∧ i = .int .i64 k ∧ Hid (p.pool.take k = q.pool.take k) ∧ Hid (Blk wr w.heap.size 26 [.slice A1 n1 c1, .slice A2 n2 c2, .slice A3 n3 c3, .int .i64 i1, .int .i64 i2, .int .i64 i3, .int .i64 i4, .slice A4 n4 c4] ∧ Blk wr (w.heap.size + 1) 26 [.slice B1 m1 d1, .slice B2 m2 d2, .slice B3 m3 d3, .int .i64 j1, .int .i64 j2, .int .i64 j3, .int .i64 j4, .slice B4 m4 d4]) ∧ Hid (Chg (fun _ => False) w wr)) (fun i _ => n3 - (intOf i).toNat)
  case atStart => exact ⟨0, Nat.zero_le _, rfl, rfl, ⟨((Blk.new w #[.slice A1 n1 c1, .slice A2 n2 c2, .slice A3 n3 c3, .int .i64 i1, .int .i64 i2, .int .i64 i3, .int .i64 i4, .slice A4 n4 c4] 26).alloc _).drewN _, by have hh := Blk.new (w.alloc (.cells #[.slice A1 n1 c1, .slice A2 n2 c2, .slice A3 n3 c3, .int .i64 i1, .int .i64 i2, .int .i64 i3, .int .i64 i4, .slice A4 n4 c4] 26)) #[.slice B1 m1 d1, .slice B2 m2 d2, .slice B3 m3 d3, .int .i64 j1, .int .i64 j2, .int .i64 j3, .int .i64 j4, .slice B4 m4 d4] 26; rw [show (w.alloc (.cells #[.slice A1 n1 c1, .slice A2 n2 c2, .slice A3 n3 c3, .int .i64 i1, .int .i64 i2, .int .i64 i3, .int .i64 i4, .slice A4 n4 c4] 26)).heap.size = w.heap.size + 1 by simp] at hh; exact hh.drewN _⟩, (show Chg (fun _ => False) w _ from by repeat (first | exact Chg.refl _ _ | exact C1.out | refine Chg.drew ?_ | refine Chg.drewN ?_ _ | refine Chg.alloc ?_ _))⟩
  case round =>
    obtain ⟨k, hk, rfl, ht, BK, CK⟩ := hrel
    have f2 := BK.out.1.at_ (i := 2) rfl
    have g2 := BK.out.2.at_ (i := 2) rfl
    by_cases hlt : k < n3
    · have h1 : k < p.pool.length := by have := LK.out; omega
      have h2 : k < q.pool.length := by have := MK.out; have := HL3.out; omega
      obtain ⟨a1, rfl, hc1⟩ := (HP.out.rk.chg0 CK.out) k _ (nums_get .i64 p.pool k h1)
      obtain ⟨a2, rfl, hc2⟩ := (HQ.out.rk.chg0 CK.out) k _ (nums_get .i64 q.pool k h2)
      obtain ⟨x, hx0⟩ : ∃ x, x = p.pool[k] := ⟨_, rfl⟩
      obtain ⟨y, hy0⟩ : ∃ y, y = q.pool[k] := ⟨_, rfl⟩
      rw [← hx0] at hc1
      rw [← hy0] at hc2
      have b1 : (0 : Int) ≤ (k : Int) := by omega
      have b2 : (k : Int) < (n3 : Int) := by omega
      have b3 : (k : Int) < (m3 : Int) := by have := HL3.out; omega
      by_cases hx : x = y
      · subst hx
        have HX : Hid (p.pool[k] = q.pool[k]) := by rw [Hid, ← hx0, ← hy0]
        clear hx0 hy0
        have q1 : (x == x) = true := by simp
        have q2 : (x != x) = false := by simp
        go_wp2_with fail
        go_quiet (fail)
        go_wp2
        go_roundw
        case rel => exact ⟨k + 1, by omega, by go_num, take_nextG ht.out h1 h2 HX.out, ⟨BK.out.1.drewN _, BK.out.2.drewN _⟩, CK.out.drewN _⟩
        case measure => simp [intOf]; omega
      · have HX : Hid (p.pool[k] ≠ q.pool[k]) := by rw [Hid, ← hx0, ← hy0]; exact hx
        clear hx0 hy0
        have q1 : (x == y) = false := by simpa using hx
        have q2 : (x != y) = true := by simpa using hx
        clear hx
        go_wp2_with fail
        go_quiet (fail)
        go_wp2
        go_ret
        refine ⟨ret_bool (Eq.trans (decide_eq_false (fun h => HX.out ?_)).symm hb.out), CK.out.drewN _⟩
        subst h
        rfl
    · have hpool : Hid (p.pool = q.pool) := by
        have h3 := ht.out
        rw [List.take_of_length_le (by have := LK.out; omega), List.take_of_length_le (by have := MK.out; have := HL3.out; omega)] at h3
        exact h3
      have f7 := BK.out.1.at_ (i := 7) rfl
      have g7 := BK.out.2.at_ (i := 7) rfl
      clear ht
      go_wp2_with fail
      clear f2 g2 f7 g7
      obtain ⟨wp, hwp⟩ : ∃ x, x = wr := ⟨_, rfl⟩
      subst hwp
      go_loopw [8, 9] (fun i _ wr => ∃ k : Nat, k ≤ n4 ∧ i = .int .i64 k ∧ Hid (p.days.take k = q.days.take k) ∧ Hid (Blk wr w.heap.size 26 [.slice A1 n1 c1, .slice A2 n2 c2, .slice A3 n3 c3, .int .i64 i1, .int .i64 i2, .int .i64 i3, .int .i64 i4, .slice A4 n4 c4] ∧ Blk wr (w.heap.size + 1) 26 [.slice B1 m1 d1, .slice B2 m2 d2, .slice B3 m3 d3, .int .i64 j1, .int .i64 j2, .int .i64 j3, .int .i64 j4, .slice B4 m4 d4]) ∧ Hid (Chg (fun _ => False) w wr)) (fun i _ _ => n4 - (intOf i).toNat)
      case atStart => exact ⟨0, Nat.zero_le _, rfl, rfl, BK.out, CK.out⟩
      case round =>
        clear BK CK
        obtain ⟨k, hk, rfl, ht, BK, CK⟩ := hrel
        have f7 := BK.out.1.at_ (i := 7) rfl
        have g7 := BK.out.2.at_ (i := 7) rfl
        by_cases hlt2 : k < n4
        · have h1 : k < p.days.length := by have := LD.out; omega
          have h2 : k < q.days.length := by have := MD.out; have := HL4.out; omega
          obtain ⟨a1, D1, r1, e1, rfl, u1, u2, l1, l2, l3, l4⟩ := (HP.out.rd.chg0 CK.out).at_ h1
          obtain ⟨a2, D2, r2, e2, rfl, u3, u4, l5, l6, l7, l8⟩ := (HQ.out.rd.chg0 CK.out).at_ h2
          obtain ⟨x, hx0⟩ : ∃ x, x = p.days[k] := ⟨_, rfl⟩
          obtain ⟨y, hy0⟩ : ∃ y, y = q.days[k] := ⟨_, rfl⟩
          have z1 : r1 ≤ 140737488355328 := by rw [l1]; exact SC.out _ (List.getElem_mem _)
          have z2 : r2 ≤ 140737488355328 := by rw [l5]; exact TC.out _ (List.getElem_mem _)
          rw [← hx0] at u1 l1 l4
          rw [← hy0] at u3 l5 l8
          have HX0 := Lib.hid hx0
          have HY0 := Lib.hid hy0
          obtain ⟨dx, cx⟩ := x
          obtain ⟨dy, cy⟩ := y
          simp only at u1 l1 l4 u3 l5 l8
          have LX := Lib.hid l1
          have LY := Lib.hid l5
          have RX := Lib.hid l4
          have RY := Lib.hid l8
          have b1 : (0 : Int) ≤ (k : Int) := by omega
          have b2 : (k : Int) < (n4 : Int) := by omega
          have b3 : (k : Int) < (m4 : Int) := by have := HL4.out; omega
          clear hx0 hy0 l1 l4 l5 l8
          have nopeD : ∀ w', Chg (fun _ => False) w w' → (dx ≠ dy ∨ cx ≠ cy) → Ending.returned (.bool false) = .returned (.bool b) ∧ Chg (fun _ => False) w w' := fun w' c hne => by
            refine ⟨ret_bool (Eq.trans (decide_eq_false (fun h => ?_)).symm hb.out), c⟩
            subst h
            have h3 : SegV.mk dx cx = SegV.mk dy cy := HX0.out.trans HY0.out.symm
            injection h3 with h4 h5
            exact hne.elim (fun h => h h4) (fun h => h h5)
          have NOPE := Lib.hid nopeD
          clear nopeD
          by_cases hd : dx = dy
          · subst hd
            have q1 : (dx == dx) = true := by simp
            have q2 : (dx != dx) = false := by simp
            by_cases hr : r1 = r2
            · have HR := Lib.hid hr
              have q3 : ((r1 : Int) != (r2 : Int)) = false := by simp [hr]
              clear hr
              go_wp2_with fail
              go_quiet (fail)
              go_wp2
              obtain ⟨wq, hwq⟩ : ∃ x, x = wr := ⟨_, rfl⟩
              subst hwq
              have UX : Hid (∀ W, Chg (fun _ => False) wq W → W.cell? ⟨(a1.add (k * 2)).block, (a1.add (k * 2)).off + 1, none⟩ = some (.slice D1 r1 e1) ∧ W.cell? ⟨(a2.add (k * 2)).block, (a2.add (k * 2)).off + 1, none⟩ = some (.slice D2 r2 e2)) := fun W cW =>
                ⟨cW.cell (p := ⟨(a1.add (k * 2)).block, (a1.add (k * 2)).off + 1, none⟩) (fun h => h) u2, cW.cell (p := ⟨(a2.add (k * 2)).block, (a2.add (k * 2)).off + 1, none⟩) (fun h => h) u4⟩
              clear f7 g7 u1 u2 u3 u4
              have BQ := Lib.hid BK.out
              have CQ := Lib.hid CK.out
              go_loopw [9] (fun j wr => ∃ t : Nat, t ≤ r1 ∧ j = .int .i64 t ∧ Hid (cx.take t = cy.take t) ∧ Hid (Chg (fun _ => False) wq wr)) (fun j _ => r1 - (intOf j).toNat)
              case atStart => exact ⟨0, Nat.zero_le _, rfl, rfl, by repeat (first | exact Chg.refl _ _ | refine Chg.drewN ?_ _)⟩
              case round =>
                obtain ⟨t, htt, rfl, hct, C2⟩ := hrel
                have f7 := (BQ.out.1.chg C2.out (fun h => h)).at_ (i := 7) rfl
                have g7 := (BQ.out.2.chg C2.out (fun h => h)).at_ (i := 7) rfl
                obtain ⟨u2, u4⟩ := UX.out _ C2.out
                by_cases hlt3 : t < r1
                · have h3 : t < cx.length := by have := LX.out; omega
                  have h4 : t < cy.length := by have := LY.out; have := HR.out; omega
                  obtain ⟨i0, i1, i2⟩ := insCells_get cx t h3
                  obtain ⟨j0, j1, j2⟩ := insCells_get cy t h4
                  obtain ⟨s1, v1, hc1⟩ := (RX.out.chg0 C2.out) _ _ i0
                  obtain ⟨s2, v2, hc2⟩ := (RY.out.chg0 C2.out) _ _ j0
                  obtain ⟨s3, v3, hc3⟩ := (RX.out.chg0 C2.out) _ _ i1
                  obtain ⟨s4, v4, hc4⟩ := (RX.out.chg0 C2.out) _ _ i2
                  obtain ⟨s5, v5, hc5⟩ := (RY.out.chg0 C2.out) _ _ j1
                  obtain ⟨s6, v6, hc6⟩ := (RY.out.chg0 C2.out) _ _ j2
                  subst v1 v2
                  cases v3
                  cases v4
                  cases v5
                  cases v6
                  clear i0 i1 i2 j0 j1 j2
                  obtain ⟨x, hx0⟩ : ∃ x, x = cx[t] := ⟨_, rfl⟩
                  obtain ⟨y, hy0⟩ : ∃ y, y = cy[t] := ⟨_, rfl⟩
                  rw [← hx0] at hc1 hc3 hc4
                  rw [← hy0] at hc2 hc5 hc6
                  rw [← add1] at hc3 hc5
                  rw [← add2] at hc4 hc6
                  have d1 : (0 : Int) ≤ (t : Int) := by omega
                  have d2 : (t : Int) < (r1 : Int) := by omega
                  have d3 : (t : Int) < (r2 : Int) := by have := HR.out; omega
                  by_cases hx : x = y
                  · subst hx
                    have HX : Hid (cx[t] = cy[t]) := by rw [Hid, ← hx0, ← hy0]
                    clear hx0 hy0
                    obtain ⟨xo, xa, xb⟩ := x
                    simp only at hc1 hc2 hc3 hc4 hc5 hc6
                    go_wp2_with fail
                    go_quiet (fail)
                    go_wp2
                    go_roundw
                    case rel => exact ⟨t + 1, by omega, by go_num, take_nextG hct.out h3 h4 HX.out, C2.out.drewN _⟩
                    case measure => simp [intOf]; omega
                  · have HX : Hid (cx[t] ≠ cy[t]) := by rw [Hid, ← hx0, ← hy0]; exact hx
                    clear hx0 hy0
                    obtain ⟨xo, xa, xb⟩ := x
                    obtain ⟨yo, ya, yb⟩ := y
                    simp only at hc1 hc2 hc3 hc4 hc5 hc6
                    have hd : (xo == yo) = false ∨ ((xo == yo) = true ∧ (xa == ya) = false) ∨ ((xo == yo) = true ∧ (xa == ya) = true ∧ (xb == yb) = false) := by
                      by_cases p1 : xo = yo
                      · by_cases p2 : xa = ya
                        · by_cases p3 : xb = yb
                          · exact absurd (by rw [p1, p2, p3]) hx
                          · exact .inr (.inr ⟨by simpa using p1, by simpa using p2, by simpa using p3⟩)
                        · exact .inr (.inl ⟨by simpa using p1, by simpa using p2⟩)
                      · exact .inl (by simpa using p1)
                    clear hx
                    rcases hd with g1 | ⟨g1, g2⟩ | ⟨g1, g2, g3⟩
                    all_goals
                      go_wp2_with fail
                      go_quiet (fail)
                      go_wp2
                      go_ret
                      refine NOPE.out _ ((CQ.out.trans C2.out (fun _ _ h => h)).drewN _) (.inr (fun h => HX.out ?_))
                      subst h
                      rfl
                · have hcode : Hid (cx = cy) := by
                    have h5 := hct.out
                    rw [List.take_of_length_le (by have := LX.out; omega), List.take_of_length_le (by have := LY.out; have := HR.out; omega)] at h5
                    exact h5
                  go_wp2_with fail
                  go_roundw
                  case rel => exact ⟨k + 1, by omega, by go_num, take_nextG ht.out h1 h2 (by rw [← HX0.out, ← HY0.out, hcode.out]), ⟨BQ.out.1.chg C2.out (fun h => h), BQ.out.2.chg C2.out (fun h => h)⟩, CQ.out.trans C2.out (fun _ _ h => h)⟩
                  case measure => simp [intOf]; omega
            · have HR := Lib.hid hr
              have q3 : ((r1 : Int) != (r2 : Int)) = true := by simp; omega
              clear hr
              go_wp2_with fail
              go_quiet (fail)
              go_wp2
              go_ret
              exact NOPE.out _ (CK.out.drewN _) (.inr (fun h => HR.out (by rw [LX.out, LY.out, h])))
          · have HD := Lib.hid hd
            have q1 : (dx == dy) = false := by simpa using hd
            have q2 : (dx != dy) = true := by simpa using hd
            clear hd
            go_wp2_with fail
            go_quiet (fail)
            go_wp2
            go_ret
            exact NOPE.out _ (CK.out.drewN _) (.inl HD.out)
        · have hdays : Hid (p.days = q.days) := by
            have h3 := ht.out
            rw [List.take_of_length_le (by have := LD.out; omega), List.take_of_length_le (by have := MD.out; have := HL4.out; omega)] at h3
            exact h3
          have f3 := BK.out.1.at_ (i := 3) rfl
          have f4 := BK.out.1.at_ (i := 4) rfl
          have f5 := BK.out.1.at_ (i := 5) rfl
          have f6 := BK.out.1.at_ (i := 6) rfl
          have g3 := BK.out.2.at_ (i := 3) rfl
          have g4 := BK.out.2.at_ (i := 4) rfl
          have g5 := BK.out.2.at_ (i := 5) rfl
          have g6 := BK.out.2.at_ (i := 6) rfl
          have FIN : Hid ((b1 && b2 && b3 && b4) = b) := Lib.hid (by
            have h7 : b7 = true := by rw [← H7.out]; exact decide_eq_true hpool.out
            have h8 : b8 = true := by rw [← H8.out]; exact decide_eq_true hdays.out
            have h9 := HB.out
            rw [h7, h8] at h9
            simpa using h9)
          cases b1
          · go_wp2_with fail
            go_ret
            exact ⟨ret_bool (by rw [← FIN.out]; simp), CK.out⟩
          cases b2
          · go_wp2_with fail
            go_ret
            exact ⟨ret_bool (by rw [← FIN.out]; simp), CK.out⟩
          cases b3
          · go_wp2_with fail
            go_ret
            exact ⟨ret_bool (by rw [← FIN.out]; simp), CK.out⟩
          cases b4
          · go_wp2_with fail
            go_ret
            exact ⟨ret_bool (by rw [← FIN.out]; simp), CK.out⟩
          go_wp2_with fail
          go_ret
          exact ⟨ret_bool (by rw [← FIN.out]; simp), CK.out⟩
end Go.Proofs.YtkadamoofiddeaaDoor.Kit
-- Canonical programs: rising lists, right elements, the lists.
set_option linter.unusedVariables false
set_option linter.unusedSimpArgs false
namespace Go.Proofs.YtkadamoofiddeaaDoor.Kit
open Go.RowKit
theorem bytesLess_eqJ : ∀ (x y : List UInt8), Op.bytesLess x y = decide (x < y)
  | [], [] => by simp [Op.bytesLess]
  | [], _ :: _ => by simp [Op.bytesLess]
  | _ :: _, [] => by simp [Op.bytesLess]
  | a :: x, b :: y => by
    rw [Op.bytesLess, bytesLess_eqJ x y, Bool.eq_iff_iff]
    simp only [List.cons_lt_cons_iff, Bool.or_eq_true, Bool.and_eq_true, decide_eq_true_eq, beq_iff_eq]
theorem bytesLess_leq : ∀ a b : List UInt8, (Op.bytesLess b a || b == a) = !Op.bytesLess a b := by
  intro a b
  rw [bytesLess_eqJ, bytesLess_eqJ]
  by_cases h1 : a < b
  · have h2 : ¬ b < a := fun h => List.lt_asymm h1 h
    have h3 : (b == a) = false := by
      rw [beq_eq_false_iff_ne]
      rintro rfl
      exact List.lt_irrefl _ h1
    simp [h1, h2, h3]
  · rcases List.le_iff_lt_or_eq.1 (List.not_lt.1 h1) with h | h
    · simp [h1, h]
    · subst h
      simp [h1]
/-- each text is greater than the one ahead of it -/
def RisS (l : List ByteArray) : Prop := ∀ i (h : i + 1 < l.length), Op.bytesLess l[i].toList l[i + 1].toList = true
def RisI (l : List Int) : Prop := ∀ i (h : i + 1 < l.length), l[i] < l[i + 1]
set_option maxRecDepth 20000 in
set_option maxHeartbeats 1600000 in
theorem risStrs {A : Option Addr} {n c : Nat} {l : List ByteArray} {w : World} {b : Bool} (HN : Hid (n = l.length)) (hn : n ≤ 140737488355328) (hr : Hid (RdG w A (strs l))) (hb : Hid (IsB b (RisS l))) :
    Calls Tryd.prog 44 #[.slice A n c] w fun e w' => e = .returned (.bool b) ∧ ∃ n, w' = w.drewN n := by
  go_enter Tryd.func44, Tryd.ntmps44
  go_wp2
  go_loopw [3] (fun i wr => ∃ q : Nat, q ≤ n ∧ i = .int .i64 ((q : Int) + 1) ∧ Hid (∀ i (h : i + 1 < l.length), i < q → Op.bytesLess l[i].toList l[i + 1].toList = true) ∧ ∃ n, wr = w.drewN n) (fun i _ => n - (intOf i).toNat)
  case atStart => exact ⟨0, Nat.zero_le _, rfl, fun i h h' => absurd h' (by omega), 0, rfl⟩
  case round =>
    obtain ⟨q, hq, rfl, ht, nd, rfl⟩ := hrel
    by_cases hlt : q + 1 < n
    · have h1 : q < l.length := by have := HN.out; omega
      have h2 : q + 1 < l.length := by have := HN.out; omega
      obtain ⟨a1, rfl, hc1⟩ := hr.out q _ (strs_get l q h1)
      obtain ⟨a2, e2, hc2⟩ := hr.out (q + 1) _ (strs_get l (q + 1) h2)
      injection e2 with e2
      subst e2
      obtain ⟨x, hx0⟩ : ∃ x, x = l[q] := ⟨_, rfl⟩
      obtain ⟨y, hy0⟩ : ∃ y, y = l[q + 1] := ⟨_, rfl⟩
      rw [← hx0] at hc1
      rw [← hy0] at hc2
      rw [show a1.add (q + 1) = (⟨a1.block, a1.off + (q + 1), none⟩ : Addr) from by unfold Addr.add; rw [if_neg (by omega)]] at hc2
      have HX := Lib.hid hx0
      have HY := Lib.hid hy0
      have b1 : (0 : Int) ≤ (q : Int) + 1 := by omega
      have b2 : (q : Int) + 1 < (n : Int) := by omega
      have b3 : (0 : Int) ≤ (q : Int) := by omega
      have b4 : (q : Int) < (n : Int) := by omega
      have b5 : IntKind.i64.wrap ((q : Int) + 1 - 1) = (q : Int) := by rw [Int.add_sub_cancel]; exact IntWalk.i64_in _ (by omega)
      have b6 : (q : Int) + 1 - 1 = (q : Int) := by omega
      have b7 : ((q : Int) + 1).toNat = q + 1 := by omega
      clear hx0 hy0
      obtain ⟨bq, hbq⟩ : ∃ b, Op.bytesLess x.toList y.toList = b := ⟨_, rfl⟩
      have YES : Hid (bq = true → Op.bytesLess x.toList y.toList = true) := Lib.hid (fun h => hbq.trans h)
      have NO : Hid (bq = false → ¬ Op.bytesLess x.toList y.toList = true) := Lib.hid (fun h h2 => by rw [hbq, h] at h2; cases h2)
      have q1 : (Op.bytesLess y.toList x.toList || y.toList == x.toList) = !bq := by rw [bytesLess_leq, hbq]
      clear hbq
      cases bq
      · go_wp2_with fail
        go_quiet (fail)
        go_wp2
        go_ret
        refine ⟨ret_bool (b_false hb.out (fun h => ?_)), _, World.drewN_drewN ..⟩
        have h3 := h q h2
        rw [← HX.out, ← HY.out] at h3
        first | exact NO.out (by simp) h3 | exact absurd h3 (Int.not_lt.2 (NO.out (by simp)))
      · go_wp2_with fail
        go_quiet (fail)
        go_wp2
        go_roundw
        case rel =>
          refine ⟨q + 1, by omega, by go_num, fun i h hi => ?_, _, rfl⟩
          by_cases hiq : i < q
          · exact ht.out i h hiq
          · obtain rfl : i = q := by omega
            rw [← HX.out, ← HY.out]
            exact YES.out (by simp)
        case measure => simp [intOf]; omega
    · go_wp2
      go_ret
      exact ⟨ret_bool (b_true hb.out (fun i h => ht.out i h (by have := HN.out; omega))), _, rfl⟩
set_option maxRecDepth 20000 in
set_option maxHeartbeats 1600000 in
theorem risInts {A : Option Addr} {n c : Nat} {l : List Int} {w : World} {b : Bool} (HN : Hid (n = l.length)) (hn : n ≤ 140737488355328) (hr : Hid (RdG w A (nums .i64 l))) (hb : Hid (IsB b (RisI l))) :
    Calls Tryd.prog 45 #[.slice A n c] w fun e w' => e = .returned (.bool b) ∧ ∃ n, w' = w.drewN n := by
  go_enter Tryd.func45, Tryd.ntmps45
  go_wp2
  go_loopw [3] (fun i wr => ∃ q : Nat, q ≤ n ∧ i = .int .i64 ((q : Int) + 1) ∧ Hid (∀ i (h : i + 1 < l.length), i < q → l[i] < l[i + 1]) ∧ ∃ n, wr = w.drewN n) (fun i _ => n - (intOf i).toNat)
  case atStart => exact ⟨0, Nat.zero_le _, rfl, fun i h h' => absurd h' (by omega), 0, rfl⟩
  case round =>
    obtain ⟨q, hq, rfl, ht, nd, rfl⟩ := hrel
    by_cases hlt : q + 1 < n
    · have h1 : q < l.length := by have := HN.out; omega
      have h2 : q + 1 < l.length := by have := HN.out; omega
      obtain ⟨a1, rfl, hc1⟩ := hr.out q _ (nums_get .i64 l q h1)
      obtain ⟨a2, e2, hc2⟩ := hr.out (q + 1) _ (nums_get .i64 l (q + 1) h2)
      injection e2 with e2
      subst e2
      obtain ⟨x, hx0⟩ : ∃ x, x = l[q] := ⟨_, rfl⟩
      obtain ⟨y, hy0⟩ : ∃ y, y = l[q + 1] := ⟨_, rfl⟩
      rw [← hx0] at hc1
      rw [← hy0] at hc2
      rw [show a1.add (q + 1) = (⟨a1.block, a1.off + (q + 1), none⟩ : Addr) from by unfold Addr.add; rw [if_neg (by omega)]] at hc2
      have HX := Lib.hid hx0
      have HY := Lib.hid hy0
      have b1 : (0 : Int) ≤ (q : Int) + 1 := by omega
      have b2 : (q : Int) + 1 < (n : Int) := by omega
      have b3 : (0 : Int) ≤ (q : Int) := by omega
      have b4 : (q : Int) < (n : Int) := by omega
      have b5 : IntKind.i64.wrap ((q : Int) + 1 - 1) = (q : Int) := by rw [Int.add_sub_cancel]; exact IntWalk.i64_in _ (by omega)
      have b6 : (q : Int) + 1 - 1 = (q : Int) := by omega
      have b7 : ((q : Int) + 1).toNat = q + 1 := by omega
      clear hx0 hy0
      obtain ⟨bq, hbq⟩ : ∃ b, decide (x < y) = b := ⟨_, rfl⟩
      have YES : Hid (bq = true → x < y) := Lib.hid (fun h => of_decide_eq_true (hbq.trans h))
      have NO : Hid (bq = false → ¬ x < y) := Lib.hid (fun h => of_decide_eq_false (hbq.trans h))
      have q1 : decide (y ≤ x) = !bq := by rw [← hbq]; by_cases h : x < y <;> simp [h] <;> omega
      clear hbq
      cases bq
      · go_wp2_with fail
        go_quiet (fail)
        go_wp2
        go_ret
        refine ⟨ret_bool (b_false hb.out (fun h => ?_)), _, World.drewN_drewN ..⟩
        have h3 := h q h2
        rw [← HX.out, ← HY.out] at h3
        first | exact NO.out (by simp) h3 | exact absurd h3 (Int.not_lt.2 (NO.out (by simp)))
      · go_wp2_with fail
        go_quiet (fail)
        go_wp2
        go_roundw
        case rel =>
          refine ⟨q + 1, by omega, by go_num, fun i h hi => ?_, _, rfl⟩
          by_cases hiq : i < q
          · exact ht.out i h hiq
          · obtain rfl : i = q := by omega
            rw [← HX.out, ← HY.out]
            exact YES.out (by simp)
        case measure => simp [intOf]; omega
    · go_wp2
      go_ret
      exact ⟨ret_bool (b_true hb.out (fun i h => ht.out i h (by have := HN.out; omega))), _, rfl⟩
theorem allCapC {s : ByteArray} {w : World} {b : Bool} (hs : s.size ≤ 140737488355328) (hb : Hid (IsB b (CapP s))) : Calls Tryd.prog 47 #[.string s] w fun e w' => e = .returned (.bool (!b)) ∧ w = w' := by
  go_enter Tryd.func47, Tryd.ntmps47
  go_wp2_with fail
  refine (lexCapital hs hb).mono ?_
  rintro e w1 ⟨rfl, rfl⟩
  go_wp2_with fail
  go_ret
  exact ⟨rfl, rfl⟩
set_option maxRecDepth 20000 in
set_option maxHeartbeats 1600000 in
theorem allCap {A : Option Addr} {n c : Nat} {l : List ByteArray} {w : World} {b : Bool} (HN : Hid (n = l.length)) (hn : n ≤ 140737488355328) (hsz : Hid (∀ s ∈ l, s.size ≤ 140737488351232)) (hr : Hid (RdG w A (strs l))) (hb : Hid (IsB b (∀ s ∈ l, CapP s))) :
    Calls Tryd.prog 46 #[.slice A n c, .func (.func 47) #[] #[]] w fun e w' => e = .returned (.bool (!b)) ∧ w = w' := by
  have key : Calls Tryd.prog 67 #[.slice A n c, .func (.func 47) #[] #[]] w fun e w' => (∃ q : Int, e = .returned (.int .i64 q) ∧ decide (0 ≤ q) = !b) ∧ w = w' := by
    go_enter Tryd.func67, Tryd.ntmps67
    go_wp2
    go_loop [5, 8] (fun _ i => ∃ q : Nat, q ≤ n ∧ i = .int .i64 q ∧ Hid (∀ i (h : i < l.length), i < q → CapP l[i])) (fun _ i => n - (intOf i).toNat)
    case atStart => exact ⟨0, Nat.zero_le _, rfl, fun i h h' => absurd h' (by omega)⟩
    case round =>
      obtain ⟨q, hq, rfl, ht⟩ := hrel
      by_cases hlt : q < n
      · have h1 : q < l.length := by have := HN.out; omega
        obtain ⟨a1, rfl, hc1⟩ := hr.out q _ (strs_get l q h1)
        obtain ⟨x, hx0⟩ : ∃ x, x = l[q] := ⟨_, rfl⟩
        rw [← hx0] at hc1
        have HX := Lib.hid hx0
        have hxs : x.size ≤ 140737488355328 := by have := hsz.out l[q] (List.getElem_mem h1); rw [hx0]; omega
        have b1 : (0 : Int) ≤ (q : Int) := by omega
        have b2 : (q : Int) < (n : Int) := by omega
        clear hx0
        by_cases hP : CapP x
        · have HP : Hid (CapP x) := hP
          clear hP
          go_wp2_with fail
          refine (allCapC (b := true) hxs (Lib.hid ⟨fun _ => HP.out, fun _ => rfl⟩)).mono ?_
          rintro e w1 ⟨rfl, rfl⟩
          go_wp2_with fail
          go_round
          case rel =>
            refine ⟨q + 1, by omega, by go_num, fun i h hi => ?_⟩
            by_cases hiq : i < q
            · exact ht.out i h hiq
            · obtain rfl : i = q := by omega
              rw [← HX.out]
              exact HP.out
          case measure => simp [intOf]; omega
        · have HP : Hid (¬ CapP x) := hP
          clear hP
          go_wp2_with fail
          refine (allCapC (b := false) hxs (Lib.hid ⟨fun h => absurd h (by decide), fun h => absurd h HP.out⟩)).mono ?_
          rintro e w1 ⟨rfl, rfl⟩
          go_wp2_with fail
          go_ret
          refine ⟨⟨_, rfl, ?_⟩, rfl⟩
          have hf : false = b := b_false hb.out (fun h => HP.out (by rw [HX.out]; exact h _ (List.getElem_mem h1)))
          rw [← hf]
          simp
      · go_wp2
        go_ret
        refine ⟨⟨_, rfl, ?_⟩, rfl⟩
        have hf : true = b := b_true hb.out (fun s hs => by
          obtain ⟨i, hi, rfl⟩ := List.getElem_of_mem hs
          exact ht.out i hi (by have := HN.out; omega))
        rw [← hf]
        rfl
  go_enter Tryd.func46, Tryd.ntmps46
  go_wp2_with fail
  refine key.mono ?_
  rintro e w1 ⟨⟨q, rfl, hq⟩, rfl⟩
  have HQ := Lib.hid hq
  obtain ⟨b', hb'⟩ : ∃ b', decide (0 ≤ q) = b' := ⟨_, rfl⟩
  have HB' := Lib.hid hb'
  clear hq
  cases b'
  · have h3 : q < 0 := by have := of_decide_eq_false hb'; omega
    clear hb'
    go_wp2_with fail
    go_ret
    exact ⟨ret_bool (by rw [← HQ.out, HB'.out]), rfl⟩
  · have h3 : 0 ≤ q := of_decide_eq_true hb'
    clear hb'
    go_wp2_with fail
    go_ret
    exact ⟨ret_bool (by rw [← HQ.out, HB'.out]), rfl⟩
theorem allCurC {s : ByteArray} {w : World} {b : Bool} (hs : s.size ≤ 140737488355328) (hb : Hid (IsB b (CurP s))) : Calls Tryd.prog 49 #[.string s] w fun e w' => e = .returned (.bool (!b)) ∧ w = w' := by
  go_enter Tryd.func49, Tryd.ntmps49
  go_wp2_with fail
  refine (lexCurrency hb).mono ?_
  rintro e w1 ⟨rfl, rfl⟩
  go_wp2_with fail
  go_ret
  exact ⟨rfl, rfl⟩
set_option maxRecDepth 20000 in
set_option maxHeartbeats 1600000 in
theorem allCur {A : Option Addr} {n c : Nat} {l : List ByteArray} {w : World} {b : Bool} (HN : Hid (n = l.length)) (hn : n ≤ 140737488355328) (hsz : Hid (∀ s ∈ l, s.size ≤ 140737488351232)) (hr : Hid (RdG w A (strs l))) (hb : Hid (IsB b (∀ s ∈ l, CurP s))) :
    Calls Tryd.prog 46 #[.slice A n c, .func (.func 49) #[] #[]] w fun e w' => e = .returned (.bool (!b)) ∧ w = w' := by
  have key : Calls Tryd.prog 67 #[.slice A n c, .func (.func 49) #[] #[]] w fun e w' => (∃ q : Int, e = .returned (.int .i64 q) ∧ decide (0 ≤ q) = !b) ∧ w = w' := by
    go_enter Tryd.func67, Tryd.ntmps67
    go_wp2
    go_loop [5, 8] (fun _ i => ∃ q : Nat, q ≤ n ∧ i = .int .i64 q ∧ Hid (∀ i (h : i < l.length), i < q → CurP l[i])) (fun _ i => n - (intOf i).toNat)
    case atStart => exact ⟨0, Nat.zero_le _, rfl, fun i h h' => absurd h' (by omega)⟩
    case round =>
      obtain ⟨q, hq, rfl, ht⟩ := hrel
      by_cases hlt : q < n
      · have h1 : q < l.length := by have := HN.out; omega
        obtain ⟨a1, rfl, hc1⟩ := hr.out q _ (strs_get l q h1)
        obtain ⟨x, hx0⟩ : ∃ x, x = l[q] := ⟨_, rfl⟩
        rw [← hx0] at hc1
        have HX := Lib.hid hx0
        have hxs : x.size ≤ 140737488355328 := by have := hsz.out l[q] (List.getElem_mem h1); rw [hx0]; omega
        have b1 : (0 : Int) ≤ (q : Int) := by omega
        have b2 : (q : Int) < (n : Int) := by omega
        clear hx0
        by_cases hP : CurP x
        · have HP : Hid (CurP x) := hP
          clear hP
          go_wp2_with fail
          refine (allCurC (b := true) hxs (Lib.hid ⟨fun _ => HP.out, fun _ => rfl⟩)).mono ?_
          rintro e w1 ⟨rfl, rfl⟩
          go_wp2_with fail
          go_round
          case rel =>
            refine ⟨q + 1, by omega, by go_num, fun i h hi => ?_⟩
            by_cases hiq : i < q
            · exact ht.out i h hiq
            · obtain rfl : i = q := by omega
              rw [← HX.out]
              exact HP.out
          case measure => simp [intOf]; omega
        · have HP : Hid (¬ CurP x) := hP
          clear hP
          go_wp2_with fail
          refine (allCurC (b := false) hxs (Lib.hid ⟨fun h => absurd h (by decide), fun h => absurd h HP.out⟩)).mono ?_
          rintro e w1 ⟨rfl, rfl⟩
          go_wp2_with fail
          go_ret
          refine ⟨⟨_, rfl, ?_⟩, rfl⟩
          have hf : false = b := b_false hb.out (fun h => HP.out (by rw [HX.out]; exact h _ (List.getElem_mem h1)))
          rw [← hf]
          simp
      · go_wp2
        go_ret
        refine ⟨⟨_, rfl, ?_⟩, rfl⟩
        have hf : true = b := b_true hb.out (fun s hs => by
          obtain ⟨i, hi, rfl⟩ := List.getElem_of_mem hs
          exact ht.out i hi (by have := HN.out; omega))
        rw [← hf]
        rfl
  go_enter Tryd.func46, Tryd.ntmps46
  go_wp2_with fail
  refine key.mono ?_
  rintro e w1 ⟨⟨q, rfl, hq⟩, rfl⟩
  have HQ := Lib.hid hq
  obtain ⟨b', hb'⟩ : ∃ b', decide (0 ≤ q) = b' := ⟨_, rfl⟩
  have HB' := Lib.hid hb'
  clear hq
  cases b'
  · have h3 : q < 0 := by have := of_decide_eq_false hb'; omega
    clear hb'
    go_wp2_with fail
    go_ret
    exact ⟨ret_bool (by rw [← HQ.out, HB'.out]), rfl⟩
  · have h3 : 0 ≤ q := of_decide_eq_true hb'
    clear hb'
    go_wp2_with fail
    go_ret
    exact ⟨ret_bool (by rw [← HQ.out, HB'.out]), rfl⟩
theorem within1 {x m : Int} {w : World} {b : Bool} (hb : Hid (IsB b (0 ≤ x ∧ x ≤ m))) : Calls Tryd.prog 51 #[.int .i64 x, .int .i64 m] w fun e w' => e = .returned (.bool b) ∧ w = w' := by
  by_cases h1 : 0 ≤ x
  · by_cases h2 : x ≤ m
    · go_enter Tryd.func51, Tryd.ntmps51
      go_wp2_with fail
      go_ret
      exact ⟨ret_bool (b_true hb.out ⟨h1, h2⟩), rfl⟩
    · have h3 : m < x := by omega
      go_enter Tryd.func51, Tryd.ntmps51
      go_wp2_with fail
      go_ret
      exact ⟨ret_bool (b_false hb.out (fun h => by have := h.2; omega)), rfl⟩
  · have h3 : x < 0 := by omega
    go_enter Tryd.func51, Tryd.ntmps51
    go_wp2_with fail
    go_ret
    exact ⟨ret_bool (b_false hb.out (fun h => by have := h.1; omega)), rfl⟩
end Go.Proofs.YtkadamoofiddeaaDoor.Kit
-- Opening arguments: a slice of bytes as a list that is read; how long it can be.
set_option linter.unusedVariables false
set_option linter.unusedSimpArgs false
set_option linter.unnecessarySimpa false
namespace Go.Proofs.YtkadamoofiddeaaDoor.Kit
open Go.ChangeShapes Go.RowKit
theorem wf_i64 {n : Int} (h : (Lit.int .i64 n).wf = true) : -9223372036854775808 ≤ n ∧ n ≤ 9223372036854775807 := bounds_i64 h
theorem wf_u64 {n : Int} (h : (Lit.int .u64 n).wf = true) : 0 ≤ n ∧ n ≤ 18446744073709551615 := bounds_u64 h
theorem wf_u32 {n : Int} (h : (Lit.int .u32 n).wf = true) : 0 ≤ n ∧ n ≤ 4294967295 := bounds_u32 h
theorem wf_u8 {n : Int} (h : (Lit.int .u8 n).wf = true) : 0 ≤ n ∧ n ≤ 255 := bounds_u8 h
/-- all are bytes -/
def Byt (l : List Int) : Prop := ∀ n ∈ l, 0 ≤ n ∧ n ≤ 255
theorem sized_ints {H : Type} {enc : TypeId × Value → H} {P : Program} {W : World} {base : Nat} {spare : Nat → Bool} {held : Bool} {t e : TypeId} {k : IntKind} {a : Option Addr} {len cap : Nat} {d : DataW H} {ps : List MemPlace} {ts : List TypeId} {ds : List (DataW H)} {j : Nat}
    (hsz : (DataW.weightsEach P ts ds).all (· ≤ reachBytes) = true) (ht : ts[j]? = some t) (hd : ds[j]? = some d) (hu : P.underlying t = some (.slice e)) (he : P.underlying e = some (.int k)) (hc : P.cellsOf e = 1) {B : Nat} (hB : P.bytesOf e = B)
    (h : DataW.Trod enc P W base spare held t (.slice a len cap) d ps) : len * B ≤ 140737488351232 := by
  obtain ⟨fuel, hf⟩ := h
  rcases open_ints hu he hc hf with ⟨hcs, _⟩ | ⟨x, l, c, zs, hcs, _, hl, _, hz, hx, _, _⟩
  · simp [Value.cells] at hcs
    obtain ⟨rfl, rfl, rfl⟩ := hcs
    simp
  · simp [Value.cells] at hcs
    obtain ⟨rfl, rfl, rfl⟩ := hcs
    obtain ⟨hx, _⟩ := Prod.mk.inj hx
    subst hx
    have z := sized_slice hsz ht hd hu
    rw [hB] at z
    have hl2 : len ≤ zs.length := by
      rw [hz]
      split
      · exact hl
      · exact Nat.le_refl _
    have h1 : (lits (H := H) k (zs.take len)).length + (lits (H := H) k (zs.drop len)).length = zs.length := by
      simp [lits]
      omega
    rw [h1] at z
    exact Nat.le_trans (Nat.mul_le_mul_right _ hl2) z
theorem open_nums {H : Type} {enc : TypeId × Value → H} {P : Program} {W : World} {base : Nat} {spare : Nat → Bool} {held : Bool} {t e : TypeId} {k : IntKind} {a : Option Addr} {len cap : Nat} {d : DataW H} {ps : List MemPlace}
    (hu : P.underlying t = some (.slice e)) (he : P.underlying e = some (.int k)) (hc : P.cellsOf e = 1) (h : DataW.Trod enc P W base spare held t (.slice a len cap) d ps) :
    ∃ l : List Int, len = l.length ∧ Rd W k a l ∧ (∀ n ∈ l, (Lit.int k n).wf = true) ∧ len ≤ cap := by
  obtain ⟨fuel, hf⟩ := h
  rcases open_ints hu he hc hf with ⟨hcs, _⟩ | ⟨x, l, c, zs, hcs, _, hl, _, hz, hx, hcell, hw⟩
  · simp [Value.cells] at hcs
    obtain ⟨rfl, rfl, rfl⟩ := hcs
    exact ⟨[], rfl, Rd.nil _ _ _, by simp, Nat.le_refl _⟩
  · simp [Value.cells] at hcs
    obtain ⟨rfl, rfl, rfl⟩ := hcs
    have hl2 : len ≤ zs.length := by
      rw [hz]
      split
      · exact hl
      · exact Nat.le_refl _
    refine ⟨zs.take len, by simp; omega, fun i hi => ⟨x, rfl, ?_⟩, fun n hn => hw n (List.mem_of_mem_take hn), hl⟩
    have hi' : i < zs.length := by simp at hi; omega
    rw [hcell i hi']
    simp [List.getD_eq_getElem?_getD, hi']
theorem open_bytes {H : Type} {enc : TypeId × Value → H} {P : Program} {W : World} {base : Nat} {spare : Nat → Bool} {held : Bool} {t e : TypeId} {a : Option Addr} {len cap : Nat} {d : DataW H} {ps : List MemPlace}
    (hu : P.underlying t = some (.slice e)) (he : P.underlying e = some (.int .u8)) (hc : P.cellsOf e = 1) (h : DataW.Trod enc P W base spare held t (.slice a len cap) d ps) :
    ∃ l : List Int, len = l.length ∧ Rd W .u8 a l ∧ Byt l ∧ len ≤ cap := by
  obtain ⟨l, h1, h2, h3, h4⟩ := open_nums hu he hc h
  exact ⟨l, h1, h2, fun n hn => wf_u8 (h3 n hn), h4⟩
end Go.Proofs.YtkadamoofiddeaaDoor.Kit
-- (general part) Opening arguments: slices of structs of one-cell fields; lists of reader calls (Op) and of items (Item).
set_option linter.unusedVariables false
set_option linter.unusedSimpArgs false
namespace Go.Proofs.YtkadamoofiddeaaDoor.Kit
open Go.ChangeShapes Go.RowKit Go.Deep
/-- a field's datum inside the datum of a slice of structs -/
def Inside {H : Type} (y d : DataW H) : Prop := ∃ el sp parts, d = .slice el sp ∧ DataW.agg parts ∈ el ∧ y ∈ parts
/-- a slice of structs whose fields have one cell each: a value for each field of each element, and each reads as its type says -/
theorem open_structs {H : Type} {enc : TypeId × Value → H} {P : Program} {W : World} {base : Nat} {spare : Nat → Bool} {held : Bool} {t e : TypeId} {fs : Array Field} {a : Option Addr} {len cap : Nat} {d : DataW H} {ps : List MemPlace}
    (hu : P.underlying t = some (.slice e)) (he : P.underlying e = some (.struct fs)) (hone : oneCellFields P fs = true) (hC : P.cellsOf e = fs.size) (h : DataW.Trod enc P W base spare held t (.slice a len cap) d ps) :
    len ≤ cap ∧ cap ≤ maxLen ∧ ∃ R : Nat → Nat → Value, ∀ i, i < len → ∃ ad, a = some ad ∧ base ≤ ad.block ∧ ∀ j f, fs[j]? = some f → W.cell? (ad.add (i * fs.size + j)) = some (R i j) ∧ ∃ n y, DataW.trod enc P W base spare held n f.type [R i j] = some y ∧ Inside y.1 d := by
  obtain ⟨fuel, hf⟩ := h
  rcases open_slice hu hf with ⟨hcs, _⟩ | ⟨x, l, c, m, n, D, Pl, hcs, hb, hl, hm, hmm, hx, hi⟩
  · simp [Value.cells] at hcs
    obtain ⟨rfl, rfl, rfl⟩ := hcs
    exact ⟨Nat.le_refl _, Nat.zero_le _, fun _ _ => .bool false, fun i hi => absurd hi (by omega)⟩
  · simp [Value.cells] at hcs
    obtain ⟨rfl, rfl, rfl⟩ := hcs
    refine ⟨hl, hm, fun i j => (W.cell? (x.add (i * fs.size + j))).getD (.bool false), fun i hlt => ⟨x, rfl, hb, fun j f hj => ?_⟩⟩
    have hlm : len ≤ m := by
      rw [hmm]
      split
      · exact hl
      · exact Nat.le_refl _
    obtain ⟨cs, hc, ht⟩ := hi i (by omega)
    rw [hC] at hc
    obtain ⟨ys, n', _, hag, _, hyl, hfd⟩ := DataW.trod_struct he ht
    obtain ⟨_, hcl, hat⟩ := World.cells?_some hc
    obtain ⟨ho, hk⟩ := hone_of hone j f hj
    have hjl : j < fs.size := (Array.getElem?_eq_some_iff.1 hj).1
    have hcell := hat j hjl
    have hv : cs[j]? = some (cs[j]'(by omega)) := List.getElem?_eq_getElem (by omega)
    have hg : W.cell? (x.add (i * fs.size + j)) = some (cs[j]'(by omega)) := by
      rw [← Go.Deep.add_add, hcell, hv]
    have h1 := hfd j f hj
    rw [ho, hk, List.drop_eq_getElem_cons (by omega : j < cs.length)] at h1
    have hR : (W.cell? (x.add (i * fs.size + j))).getD (.bool false) = cs[j]'(by omega) := by rw [hg]; rfl
    show W.cell? _ = some ((W.cell? (x.add (i * fs.size + j))).getD (.bool false)) ∧ ∃ n y, DataW.trod enc P W base spare held n f.type [(W.cell? (x.add (i * fs.size + j))).getD (.bool false)] = some y ∧ Inside y.1 d
    rw [hR]
    refine ⟨hg, n', ys[j]'(by omega), ?_, _, _, _, (Prod.mk.inj hx).1, List.mem_map.2 ⟨i, List.mem_range.2 hlt, (Prod.mk.inj hag).1⟩, List.mem_map.2 ⟨_, List.getElem_mem (by omega), rfl⟩⟩
    rw [List.getElem?_eq_getElem (by omega : j < ys.length)] at h1
    exact h1
/-- the number in a cell -/
def numIn : Value → Int
  | .int _ n => n
  | _ => 0
def strIn : Value → ByteArray
  | .string s => s
  | _ => ByteArray.empty
theorem is_int {H : Type} {enc : TypeId × Value → H} {P : Program} {W : World} {base : Nat} {spare : Nat → Bool} {held : Bool} {t : TypeId} {k : IntKind} {n : Nat} {v : Value} {y : DataW H × List MemPlace} (hu : P.underlying t = some (.int k)) (h : DataW.trod enc P W base spare held n t [v] = some y) : v = .int k (numIn v) ∧ (Lit.int k (numIn v)).wf = true := by
  obtain ⟨z, hz, _, hw⟩ := DataW.trod_int hu h
  simp at hz
  subst hz
  exact ⟨rfl, hw⟩
theorem is_str {H : Type} {enc : TypeId × Value → H} {P : Program} {W : World} {base : Nat} {spare : Nat → Bool} {held : Bool} {t : TypeId} {n : Nat} {v : Value} {y : DataW H × List MemPlace} (hu : P.underlying t = some .string) (h : DataW.trod enc P W base spare held n t [v] = some y) : v = .string (strIn v) ∧ y.1 = .lit (.string (strIn v).data.toList) := by
  obtain ⟨z, hz, hy, hw⟩ := DataW.trod_string hu h
  simp at hz
  subst hz
  exact ⟨rfl, by rw [hy]; rfl⟩
end Go.Proofs.YtkadamoofiddeaaDoor.Kit
-- (general part) Opening arguments: how much each slice that lies inside an argument takes at most.
set_option linter.unusedVariables false
set_option linter.unusedSimpArgs false
namespace Go.Proofs.YtkadamoofiddeaaDoor.Kit
open Go.ChangeShapes Go.RowKit Go.Deep
/-- each string, slice and map met in reading takes at most so much -/
def Light {H : Type} (P : Program) (t : TypeId) (d : DataW H) : Prop := ∀ x ∈ d.weights P t, x ≤ reachBytes
theorem light_arg {H : Type} {P : Program} {ts : List TypeId} {ds : List (DataW H)} {j : Nat} {t : TypeId} {d : DataW H} (h : (DataW.weightsEach P ts ds).all (· ≤ reachBytes) = true) (ht : ts[j]? = some t) (hd : ds[j]? = some d) : Light P t d := fun x hx => by
  have := List.all_eq_true.1 h _ (DataW.weights_mem_each ht hd x hx)
  simpa using this
theorem weights_mem_all {H : Type} {P : Program} {e : TypeId} : ∀ {l : List (DataW H)} {d : DataW H}, d ∈ l → ∀ n ∈ d.weights P e, n ∈ DataW.weightsAll P e l
  | x :: r, d, h, n, hn => by
    simp only [DataW.weightsAll, List.mem_append]
    rcases List.mem_cons.1 h with rfl | h
    · exact .inl hn
    · exact .inr (weights_mem_all h n hn)
theorem light_elem {H : Type} {P : Program} {t e : TypeId} {el sp : List (DataW H)} (hu : P.underlying t = some (.slice e)) (h : Light P t (.slice el sp)) : (el.length + sp.length) * P.bytesOf e ≤ reachBytes ∧ ∀ d ∈ el, Light P e d := by
  refine ⟨h _ (by simp [DataW.weights, hu]), fun d hd x hx => h x ?_⟩
  simp only [DataW.weights, hu, List.mem_cons, List.mem_append]
  exact .inr (.inl (weights_mem_all hd x hx))
theorem light_field {H : Type} {P : Program} {t : TypeId} {fs : Array Field} {parts : List (DataW H)} {j : Nat} {f : Field} {y : DataW H} (hu : P.underlying t = some (.struct fs)) (h : Light P t (.agg parts)) (hj : fs[j]? = some f) (hy : parts[j]? = some y) : Light P f.type y := fun x hx => h x (by
  simp only [DataW.weights, hu]
  refine DataW.weights_mem_each (j := j) (t := f.type) ?_ hy x hx
  rw [List.getElem?_map, Array.getElem?_toList, hj]
  rfl)
theorem light_str {H : Type} {P : Program} {t : TypeId} {b : List UInt8} (h : Light (H := H) P t (.lit (.string b))) : b.length ≤ reachBytes := h _ (by simp [DataW.weights])
/-- a slice's length -/
theorem light_len {H : Type} {enc : TypeId × Value → H} {P : Program} {W : World} {base : Nat} {spare : Nat → Bool} {held : Bool} {t e : TypeId} {a : Option Addr} {len cap : Nat} {d : DataW H} {ps : List MemPlace} {B : Nat}
    (hu : P.underlying t = some (.slice e)) (hB : P.bytesOf e = B) (h : DataW.Trod enc P W base spare held t (.slice a len cap) d ps) (hl : Light P t d) : len * B ≤ 140737488351232 := by
  obtain ⟨fuel, hf⟩ := h
  rcases open_slice hu hf with ⟨hcs, _⟩ | ⟨x, l, c, m, n, D, Pl, hcs, hb, hle, hm, hmm, hx, hi⟩
  · simp [Value.cells] at hcs
    obtain ⟨rfl, rfl, rfl⟩ := hcs
    simp
  · simp [Value.cells] at hcs
    obtain ⟨rfl, rfl, rfl⟩ := hcs
    obtain ⟨hx, _⟩ := Prod.mk.inj hx
    subst hx
    have z := (light_elem hu hl).1
    rw [hB] at z
    refine Nat.le_trans (Nat.mul_le_mul_right _ ?_) z
    simp
/-- a slice of structs whose fields have one cell each: a value for each field of each element; each reads as its type says, and is light -/
theorem open_structsL {H : Type} {enc : TypeId × Value → H} {P : Program} {W : World} {base : Nat} {spare : Nat → Bool} {held : Bool} {t e : TypeId} {fs : Array Field} {a : Option Addr} {len cap : Nat} {d : DataW H} {ps : List MemPlace}
    (hu : P.underlying t = some (.slice e)) (he : P.underlying e = some (.struct fs)) (hone : oneCellFields P fs = true) (hC : P.cellsOf e = fs.size) (h : DataW.Trod enc P W base spare held t (.slice a len cap) d ps) (hL : Light P t d) :
    len ≤ cap ∧ cap ≤ maxLen ∧ ∃ R : Nat → Nat → Value, ∀ i, i < len → ∃ ad, a = some ad ∧ base ≤ ad.block ∧ ∀ j f, fs[j]? = some f → W.cell? (ad.add (i * fs.size + j)) = some (R i j) ∧ ∃ n y, DataW.trod enc P W base spare held n f.type [R i j] = some y ∧ Light P f.type y.1 := by
  obtain ⟨fuel, hf⟩ := h
  rcases open_slice hu hf with ⟨hcs, _⟩ | ⟨x, l, c, m, n, D, Pl, hcs, hb, hl, hm, hmm, hx, hi⟩
  · simp [Value.cells] at hcs
    obtain ⟨rfl, rfl, rfl⟩ := hcs
    exact ⟨Nat.le_refl _, Nat.zero_le _, fun _ _ => .bool false, fun i hi => absurd hi (by omega)⟩
  · simp [Value.cells] at hcs
    obtain ⟨rfl, rfl, rfl⟩ := hcs
    have hd := (Prod.mk.inj hx).1
    rw [hd] at hL
    have hE := (light_elem hu hL).2
    refine ⟨hl, hm, fun i j => (W.cell? (x.add (i * fs.size + j))).getD (.bool false), fun i hlt => ⟨x, rfl, hb, fun j f hj => ?_⟩⟩
    have hlm : len ≤ m := by
      rw [hmm]
      split
      · exact hl
      · exact Nat.le_refl _
    obtain ⟨cs, hc, ht⟩ := hi i (by omega)
    rw [hC] at hc
    obtain ⟨ys, n', _, hag, _, hyl, hfd⟩ := DataW.trod_struct he ht
    obtain ⟨_, hcl, hat⟩ := World.cells?_some hc
    obtain ⟨ho, hk⟩ := hone_of hone j f hj
    have hjl : j < fs.size := (Array.getElem?_eq_some_iff.1 hj).1
    have hcell := hat j hjl
    have hv : cs[j]? = some (cs[j]'(by omega)) := List.getElem?_eq_getElem (by omega)
    have hg : W.cell? (x.add (i * fs.size + j)) = some (cs[j]'(by omega)) := by
      rw [← Go.Deep.add_add, hcell, hv]
    have h1 := hfd j f hj
    rw [ho, hk, List.drop_eq_getElem_cons (by omega : j < cs.length)] at h1
    have hR : (W.cell? (x.add (i * fs.size + j))).getD (.bool false) = cs[j]'(by omega) := by rw [hg]; rfl
    show W.cell? _ = some ((W.cell? (x.add (i * fs.size + j))).getD (.bool false)) ∧ ∃ n y, DataW.trod enc P W base spare held n f.type [(W.cell? (x.add (i * fs.size + j))).getD (.bool false)] = some y ∧ Light P f.type y.1
    rw [hR]
    refine ⟨hg, n', ys[j]'(by omega), ?_, ?_⟩
    · rw [List.getElem?_eq_getElem (by omega : j < ys.length)] at h1
      exact h1
    · have hD := hE (D i) (List.mem_map.2 ⟨i, List.mem_range.2 hlt, rfl⟩)
      rw [(Prod.mk.inj hag).1] at hD
      refine light_field he hD hj ?_
      rw [List.getElem?_map, List.getElem?_eq_getElem (by omega : j < ys.length)]
      rfl
theorem is_sliceL {H : Type} {enc : TypeId × Value → H} {P : Program} {W : World} {base : Nat} {spare : Nat → Bool} {held : Bool} {t e : TypeId} {n : Nat} {v : Value} {y : DataW H × List MemPlace} (hu : P.underlying t = some (.slice e)) (h : DataW.trod enc P W base spare held n t [v] = some y) : ∃ a len cap, v = .slice a len cap ∧ len ≤ cap ∧ cap ≤ maxLen ∧ DataW.Trod enc P W base spare held t (.slice a len cap) y.1 y.2 := by
  rcases open_slice hu h with ⟨hcs, _⟩ | ⟨x, l, c, m, n, D, Pl, hcs, hb, hl, hm, hmm, hx, hi⟩
  · simp at hcs
    subst hcs
    exact ⟨_, _, _, rfl, Nat.le_refl _, Nat.zero_le _, ⟨_, by simpa [Value.cells] using h⟩⟩
  · simp at hcs
    subst hcs
    exact ⟨_, _, _, rfl, hl, hm, ⟨_, by simpa [Value.cells] using h⟩⟩
end Go.Proofs.YtkadamoofiddeaaDoor.Kit
-- (general part) Opening arguments: slices of structs whose fields may have several cells.
set_option linter.unusedVariables false
set_option linter.unusedSimpArgs false
namespace Go.Proofs.YtkadamoofiddeaaDoor.Kit
open Go.ChangeShapes Go.RowKit Go.Deep
/-- the cells of each element, which read as its type says, and are light -/
theorem open_elemsL {H : Type} {enc : TypeId × Value → H} {P : Program} {W : World} {base : Nat} {spare : Nat → Bool} {held : Bool} {t e : TypeId} {C : Nat} {a : Option Addr} {len cap : Nat} {d : DataW H} {ps : List MemPlace}
    (hu : P.underlying t = some (.slice e)) (hC : P.cellsOf e = C) (h : DataW.Trod enc P W base spare held t (.slice a len cap) d ps) (hL : Light P t d) :
    len ≤ cap ∧ cap ≤ maxLen ∧ ∀ i, i < len → ∃ ad, a = some ad ∧ base ≤ ad.block ∧ ∃ (cs : List Value) (n : Nat) (y : DataW H × List MemPlace), cs.length = C ∧ (∀ j, j < C → W.cell? (ad.add (i * C + j)) = cs[j]?) ∧ DataW.trod enc P W base spare held n e cs = some y ∧ Light P e y.1 := by
  obtain ⟨fuel, hf⟩ := h
  rcases open_slice hu hf with ⟨hcs, _⟩ | ⟨x, l, c, m, n, D, Pl, hcs, hb, hl, hm, hmm, hx, hi⟩
  · simp [Value.cells] at hcs
    obtain ⟨rfl, rfl, rfl⟩ := hcs
    exact ⟨Nat.le_refl _, Nat.zero_le _, fun i hi => absurd hi (by omega)⟩
  · simp [Value.cells] at hcs
    obtain ⟨rfl, rfl, rfl⟩ := hcs
    have hd := (Prod.mk.inj hx).1
    rw [hd] at hL
    have hE := (light_elem hu hL).2
    refine ⟨hl, hm, fun i hlt => ⟨x, rfl, hb, ?_⟩⟩
    have hlm : len ≤ m := by
      rw [hmm]
      split
      · exact hl
      · exact Nat.le_refl _
    obtain ⟨cs, hc, ht⟩ := hi i (by omega)
    rw [hC] at hc
    obtain ⟨_, hcl, hat⟩ := World.cells?_some hc
    refine ⟨cs, n, _, hcl, fun j hj => ?_, ht, hE (D i) (List.mem_map.2 ⟨i, List.mem_range.2 hlt, rfl⟩)⟩
    rw [← Go.Deep.add_add]
    exact hat j hj
/-- a field of a struct's cells -/
theorem trod_fieldL {H : Type} {enc : TypeId × Value → H} {P : Program} {W : World} {base : Nat} {spare : Nat → Bool} {held : Bool} {e : TypeId} {fs : Array Field} {n j : Nat} {f : Field} {cs : List Value} {y : DataW H × List MemPlace}
    (he : P.underlying e = some (.struct fs)) (h : DataW.trod enc P W base spare held n e cs = some y) (hL : Light P e y.1) (hj : fs[j]? = some f) :
    ∃ n' y', DataW.trod enc P W base spare held n' f.type ((cs.drop f.offset).take (P.cellsOf f.type)) = some y' ∧ Light P f.type y'.1 := by
  obtain ⟨ys, n', _, hag, _, hyl, hfd⟩ := DataW.trod_struct he h
  have hjl : j < fs.size := (Array.getElem?_eq_some_iff.1 hj).1
  have h1 := hfd j f hj
  rw [List.getElem?_eq_getElem (by omega : j < ys.length)] at h1
  refine ⟨n', ys[j]'(by omega), h1, ?_⟩
  rw [hag] at hL
  refine light_field he hL hj ?_
  rw [List.getElem?_map, List.getElem?_eq_getElem (by omega : j < ys.length)]
  rfl
end Go.Proofs.YtkadamoofiddeaaDoor.Kit
