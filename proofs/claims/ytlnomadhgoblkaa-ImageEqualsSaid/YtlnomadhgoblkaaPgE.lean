/- Programs: lists that are the same. -/
import Derived.Test.YtlnomadhgoblkaaProg
import Derived.Test.YtlnomadhgoblkaaPgA
import Derived.Deep.QuietTactic
import Derived.Lib.Bytes
import Derived.Deep.Slices
import Derived.BigQuiet
set_option linter.unusedVariables false
set_option linter.unusedSimpArgs false
namespace Go.Proofs.Ytlnomadhgoblkaa.Kit
open Go.RowKit
theorem take_nextG {α : Type} {l m : List α} {k : Nat} (h : l.take k = m.take k) (h1 : k < l.length) (h2 : k < m.length) (he : l[k] = m[k]) : l.take (k + 1) = m.take (k + 1) := by
  rw [List.take_succ_eq_append_getElem h1, List.take_succ_eq_append_getElem h2, h, he]
theorem strToList_inj {s t : ByteArray} (h : s.toList = t.toList) : s = t := by
  rw [Lib.toList_data, Lib.toList_data] at h
  cases s
  cases t
  simp only [ByteArray.mk.injEq]
  exact Array.toList_inj.1 h
theorem add1 (ad : Addr) (i : Nat) : (⟨(ad.add i).block, (ad.add i).off + 1, none⟩ : Addr) = ad.add (i + 1) := by
  rw [show (⟨(ad.add i).block, (ad.add i).off + 1, none⟩ : Addr) = (ad.add i).add 1 from rfl, Go.Deep.add_add]
theorem add2 (ad : Addr) (i : Nat) : (⟨(ad.add i).block, (ad.add i).off + 2, none⟩ : Addr) = ad.add (i + 2) := by
  rw [show (⟨(ad.add i).block, (ad.add i).off + 2, none⟩ : Addr) = (ad.add i).add 2 from rfl, Go.Deep.add_add]
set_option maxRecDepth 20000 in
set_option maxHeartbeats 1600000 in
theorem eqStrs {A B : Option Addr} {n m c d : Nat} {l k : List ByteArray} {w : World} {b : Bool} (HN : Hid (n = l.length)) (HM : Hid (m = k.length)) (hn : n ≤ 140737488355328) (hm : m ≤ 140737488355328) (hr : Hid (RdG w A (strs l))) (hk : Hid (RdG w B (strs k))) (hb : Hid (decide (l = k) = b)) :
    Calls Try.prog 36 #[.slice A n c, .slice B m d] w fun e w' => e = .returned (.bool b) ∧ ∃ n, w' = w.drewN n := by
  by_cases he : n = m
  · subst he
    have e1 : ((n : Int) != (n : Int)) = false := by simp
    have e2 : ((n : Int) == (n : Int)) = true := by simp
    go_enter Try.func36, Try.ntmps36
    go_wp2
    go_loopw [5, 13] (fun j i wr => ∃ q : Nat, q ≤ n ∧ i = .int .i64 q ∧ Hid (l.take q = k.take q) ∧ ∃ n, wr = w.drewN n) (fun _ i _ => n - (intOf i).toNat)
    case atStart => exact ⟨0, Nat.zero_le _, rfl, rfl, 0, rfl⟩
    case round =>
      obtain ⟨q, hq, rfl, ht, nd, rfl⟩ := hrel
      by_cases hlt : q < n
      · have h1 : q < l.length := by have := HN.out; omega
        have h2 : q < k.length := by have := HM.out; omega
        obtain ⟨a1, rfl, hc1⟩ := hr.out q _ (strs_get l q h1)
        obtain ⟨a2, rfl, hc2⟩ := hk.out q _ (strs_get k q h2)
        obtain ⟨x, hx0⟩ : ∃ x, x = l[q] := ⟨_, rfl⟩
        obtain ⟨y, hy0⟩ : ∃ y, y = k[q] := ⟨_, rfl⟩
        rw [← hx0] at hc1
        rw [← hy0] at hc2
        have b1 : (0 : Int) ≤ (q : Int) := by omega
        have b2 : (q : Int) < (n : Int) := by omega
        by_cases hx : x = y
        · subst hx
          have HX : Hid (l[q] = k[q]) := by rw [Hid, ← hx0, ← hy0]
          clear hx0 hy0
          have q1 : (x.toList == x.toList) = true := by simp
          have q2 : (x.toList != x.toList) = false := by simp
          go_wp2_with fail
          go_quiet (fail)
          go_wp2
          go_roundw
          case rel => exact ⟨q + 1, by omega, by go_num, take_nextG ht.out h1 h2 HX.out, _, rfl⟩
          case measure => simp [intOf]; omega
        · have HX : Hid (l[q] ≠ k[q]) := by rw [Hid, ← hx0, ← hy0]; exact hx
          clear hx0 hy0
          have q1 : (x.toList == y.toList) = false := by
            rw [beq_eq_false_iff_ne]
            exact fun h => hx (strToList_inj h)
          have q2 : (x.toList != y.toList) = true := by rw [bne, q1]; rfl
          clear hx
          go_wp2_with fail
          go_quiet (fail)
          go_wp2
          go_ret
          refine ⟨ret_bool (Eq.trans (decide_eq_false (fun h => HX.out ?_)).symm hb.out), _, World.drewN_drewN ..⟩
          subst h
          rfl
      · go_wp2
        go_ret
        refine ⟨ret_bool (Eq.trans (decide_eq_true ?_).symm hb.out), _, rfl⟩
        have := ht.out
        rw [List.take_of_length_le (by have := HN.out; omega), List.take_of_length_le (by have := HM.out; omega)] at this
        exact this
  · have e1 : ((n : Int) != (m : Int)) = true := by simp; omega
    have HE := Lib.hid he
    clear he
    go_enter Try.func36, Try.ntmps36
    go_wp2
    go_ret
    exact ⟨ret_bool (Eq.trans (decide_eq_false (fun h => HE.out (by rw [HN.out, HM.out, h]))).symm hb.out), 0, rfl⟩
set_option maxRecDepth 20000 in
set_option maxHeartbeats 1600000 in
theorem eqTexts {A B : Option Addr} {n m c d : Nat} {l k : List ByteArray} {w : World} {b : Bool} (HN : Hid (n = l.length)) (HM : Hid (m = k.length)) (hn : n ≤ 140737488355328) (hm : m ≤ 140737488355328) (hr : Hid (RdG w A (strs l))) (hk : Hid (RdG w B (strs k))) (hb : Hid (decide (l = k) = b)) :
    Calls Try.prog 41 #[.slice A n c, .slice B m d] w fun e w' => e = .returned (.bool b) ∧ ∃ n, w' = w.drewN n := by
  by_cases he : n = m
  · subst he
    have e1 : ((n : Int) != (n : Int)) = false := by simp
    have e2 : ((n : Int) == (n : Int)) = true := by simp
    go_enter Try.func41, Try.ntmps41
    go_wp2
    go_loopw [5] (fun i wr => ∃ q : Nat, q ≤ n ∧ i = .int .i64 q ∧ Hid (l.take q = k.take q) ∧ ∃ n, wr = w.drewN n) (fun i _ => n - (intOf i).toNat)
    case atStart => exact ⟨0, Nat.zero_le _, rfl, rfl, 0, rfl⟩
    case round =>
      obtain ⟨q, hq, rfl, ht, nd, rfl⟩ := hrel
      by_cases hlt : q < n
      · have h1 : q < l.length := by have := HN.out; omega
        have h2 : q < k.length := by have := HM.out; omega
        obtain ⟨a1, rfl, hc1⟩ := hr.out q _ (strs_get l q h1)
        obtain ⟨a2, rfl, hc2⟩ := hk.out q _ (strs_get k q h2)
        obtain ⟨x, hx0⟩ : ∃ x, x = l[q] := ⟨_, rfl⟩
        obtain ⟨y, hy0⟩ : ∃ y, y = k[q] := ⟨_, rfl⟩
        rw [← hx0] at hc1
        rw [← hy0] at hc2
        have b1 : (0 : Int) ≤ (q : Int) := by omega
        have b2 : (q : Int) < (n : Int) := by omega
        by_cases hx : x = y
        · subst hx
          have HX : Hid (l[q] = k[q]) := by rw [Hid, ← hx0, ← hy0]
          clear hx0 hy0
          have q1 : (x.toList == x.toList) = true := by simp
          have q2 : (x.toList != x.toList) = false := by simp
          go_wp2_with fail
          go_quiet (fail)
          go_wp2
          go_roundw
          case rel => exact ⟨q + 1, by omega, by go_num, take_nextG ht.out h1 h2 HX.out, _, rfl⟩
          case measure => simp [intOf]; omega
        · have HX : Hid (l[q] ≠ k[q]) := by rw [Hid, ← hx0, ← hy0]; exact hx
          clear hx0 hy0
          have q1 : (x.toList == y.toList) = false := by
            rw [beq_eq_false_iff_ne]
            exact fun h => hx (strToList_inj h)
          have q2 : (x.toList != y.toList) = true := by rw [bne, q1]; rfl
          clear hx
          go_wp2_with fail
          go_quiet (fail)
          go_wp2
          go_ret
          refine ⟨ret_bool (Eq.trans (decide_eq_false (fun h => HX.out ?_)).symm hb.out), _, World.drewN_drewN ..⟩
          subst h
          rfl
      · go_wp2
        go_ret
        refine ⟨ret_bool (Eq.trans (decide_eq_true ?_).symm hb.out), _, rfl⟩
        have := ht.out
        rw [List.take_of_length_le (by have := HN.out; omega), List.take_of_length_le (by have := HM.out; omega)] at this
        exact this
  · have e1 : ((n : Int) != (m : Int)) = true := by simp; omega
    have HE := Lib.hid he
    clear he
    go_enter Try.func41, Try.ntmps41
    go_wp2
    go_ret
    exact ⟨ret_bool (Eq.trans (decide_eq_false (fun h => HE.out (by rw [HN.out, HM.out, h]))).symm hb.out), 0, rfl⟩
set_option maxRecDepth 20000 in
set_option maxHeartbeats 1600000 in
theorem eqInts {A B : Option Addr} {n m c d : Nat} {l k : List Int} {w : World} {b : Bool} (HN : Hid (n = l.length)) (HM : Hid (m = k.length)) (hn : n ≤ 140737488355328) (hm : m ≤ 140737488355328) (hr : Hid (RdG w A (nums .i64 l))) (hk : Hid (RdG w B (nums .i64 k))) (hb : Hid (decide (l = k) = b)) :
    Calls Try.prog 37 #[.slice A n c, .slice B m d] w fun e w' => e = .returned (.bool b) ∧ ∃ n, w' = w.drewN n := by
  by_cases he : n = m
  · subst he
    have e1 : ((n : Int) != (n : Int)) = false := by simp
    have e2 : ((n : Int) == (n : Int)) = true := by simp
    go_enter Try.func37, Try.ntmps37
    go_wp2
    go_loopw [5, 13] (fun j i wr => ∃ q : Nat, q ≤ n ∧ i = .int .i64 q ∧ Hid (l.take q = k.take q) ∧ ∃ n, wr = w.drewN n) (fun _ i _ => n - (intOf i).toNat)
    case atStart => exact ⟨0, Nat.zero_le _, rfl, rfl, 0, rfl⟩
    case round =>
      obtain ⟨q, hq, rfl, ht, nd, rfl⟩ := hrel
      by_cases hlt : q < n
      · have h1 : q < l.length := by have := HN.out; omega
        have h2 : q < k.length := by have := HM.out; omega
        obtain ⟨a1, rfl, hc1⟩ := hr.out q _ (nums_get .i64 l q h1)
        obtain ⟨a2, rfl, hc2⟩ := hk.out q _ (nums_get .i64 k q h2)
        obtain ⟨x, hx0⟩ : ∃ x, x = l[q] := ⟨_, rfl⟩
        obtain ⟨y, hy0⟩ : ∃ y, y = k[q] := ⟨_, rfl⟩
        rw [← hx0] at hc1
        rw [← hy0] at hc2
        have b1 : (0 : Int) ≤ (q : Int) := by omega
        have b2 : (q : Int) < (n : Int) := by omega
        by_cases hx : x = y
        · subst hx
          have HX : Hid (l[q] = k[q]) := by rw [Hid, ← hx0, ← hy0]
          clear hx0 hy0
          have q1 : (x == x) = true := by simp
          have q2 : (x != x) = false := by simp
          go_wp2_with fail
          go_quiet (fail)
          go_wp2
          go_roundw
          case rel => exact ⟨q + 1, by omega, by go_num, take_nextG ht.out h1 h2 HX.out, _, rfl⟩
          case measure => simp [intOf]; omega
        · have HX : Hid (l[q] ≠ k[q]) := by rw [Hid, ← hx0, ← hy0]; exact hx
          clear hx0 hy0
          have q1 : (x == y) = false := by simpa using hx
          have q2 : (x != y) = true := by simpa using hx
          clear hx
          go_wp2_with fail
          go_quiet (fail)
          go_wp2
          go_ret
          refine ⟨ret_bool (Eq.trans (decide_eq_false (fun h => HX.out ?_)).symm hb.out), _, World.drewN_drewN ..⟩
          subst h
          rfl
      · go_wp2
        go_ret
        refine ⟨ret_bool (Eq.trans (decide_eq_true ?_).symm hb.out), _, rfl⟩
        have := ht.out
        rw [List.take_of_length_le (by have := HN.out; omega), List.take_of_length_le (by have := HM.out; omega)] at this
        exact this
  · have e1 : ((n : Int) != (m : Int)) = true := by simp; omega
    have HE := Lib.hid he
    clear he
    go_enter Try.func37, Try.ntmps37
    go_wp2
    go_ret
    exact ⟨ret_bool (Eq.trans (decide_eq_false (fun h => HE.out (by rw [HN.out, HM.out, h]))).symm hb.out), 0, rfl⟩
set_option maxRecDepth 20000 in
set_option maxHeartbeats 1600000 in
theorem eqIns {A B : Option Addr} {n m c d : Nat} {l k : List InsV} {w : World} {b : Bool} (HN : Hid (n = l.length)) (HM : Hid (m = k.length)) (hn : n ≤ 140737488355328) (hm : m ≤ 140737488355328) (hr : Hid (RdG w A (insCells l))) (hk : Hid (RdG w B (insCells k))) (hb : Hid (decide (l = k) = b)) :
    Calls Try.prog 40 #[.slice A n c, .slice B m d] w fun e w' => e = .returned (.bool b) ∧ ∃ n, w' = w.drewN n := by
  by_cases he : n = m
  · subst he
    have e1 : ((n : Int) != (n : Int)) = false := by simp
    have e2 : ((n : Int) == (n : Int)) = true := by simp
    go_enter Try.func40, Try.ntmps40
    go_wp2
    go_loopw [5, 13] (fun j i wr => ∃ q : Nat, q ≤ n ∧ i = .int .i64 q ∧ Hid (l.take q = k.take q) ∧ ∃ n, wr = w.drewN n) (fun _ i _ => n - (intOf i).toNat)
    case atStart => exact ⟨0, Nat.zero_le _, rfl, rfl, 0, rfl⟩
    case round =>
      obtain ⟨q, hq, rfl, ht, nd, rfl⟩ := hrel
      by_cases hlt : q < n
      · have h1 : q < l.length := by have := HN.out; omega
        have h2 : q < k.length := by have := HM.out; omega
        obtain ⟨i0, i1, i2⟩ := insCells_get l q h1
        obtain ⟨j0, j1, j2⟩ := insCells_get k q h2
        obtain ⟨a1, e1, hc1⟩ := hr.out _ _ i0
        obtain ⟨a2, e2, hc2⟩ := hk.out _ _ j0
        obtain ⟨a3, e3, hc3⟩ := hr.out _ _ i1
        obtain ⟨a4, e4, hc4⟩ := hr.out _ _ i2
        obtain ⟨a5, e5, hc5⟩ := hk.out _ _ j1
        obtain ⟨a6, e6, hc6⟩ := hk.out _ _ j2
        subst e1 e2
        cases e3
        cases e4
        cases e5
        cases e6
        clear i0 i1 i2 j0 j1 j2
        obtain ⟨x, hx0⟩ : ∃ x, x = l[q] := ⟨_, rfl⟩
        obtain ⟨y, hy0⟩ : ∃ y, y = k[q] := ⟨_, rfl⟩
        rw [← hx0] at hc1 hc3 hc4
        rw [← hy0] at hc2 hc5 hc6
        rw [← add1] at hc3 hc5
        rw [← add2] at hc4 hc6
        have b1 : (0 : Int) ≤ (q : Int) := by omega
        have b2 : (q : Int) < (n : Int) := by omega
        by_cases hx : x = y
        · subst hx
          have HX : Hid (l[q] = k[q]) := by rw [Hid, ← hx0, ← hy0]
          clear hx0 hy0
          obtain ⟨xo, xa, xb⟩ := x
          simp only at hc1 hc2 hc3 hc4 hc5 hc6
          go_wp2_with fail
          go_quiet (fail)
          go_wp2
          go_roundw
          case rel => exact ⟨q + 1, by omega, by go_num, take_nextG ht.out h1 h2 HX.out, _, rfl⟩
          case measure => simp [intOf]; omega
        · have HX : Hid (l[q] ≠ k[q]) := by rw [Hid, ← hx0, ← hy0]; exact hx
          clear hx0 hy0
          obtain ⟨xo, xa, xb⟩ := x
          obtain ⟨yo, ya, yb⟩ := y
          simp only at hc1 hc2 hc3 hc4 hc5 hc6
          have hd : (xo == yo) = false ∨ ((xo == yo) = true ∧ (xa == ya) = false) ∨ ((xo == yo) = true ∧ (xa == ya) = true ∧ (xb == yb) = false) := by
            by_cases p1 : xo = yo
            · by_cases p2 : xa = ya
              · by_cases p3 : xb = yb
                · exact absurd (by rw [p1, p2, p3]) hx
                · exact .inr (.inr ⟨by simpa using p1, by simpa using p2, by simpa using p3⟩)
              · exact .inr (.inl ⟨by simpa using p1, by simpa using p2⟩)
            · exact .inl (by simpa using p1)
          clear hx
          rcases hd with g1 | ⟨g1, g2⟩ | ⟨g1, g2, g3⟩
          all_goals
            go_wp2_with fail
            go_quiet (fail)
            go_wp2
            go_ret
            refine ⟨ret_bool (Eq.trans (decide_eq_false (fun h => HX.out ?_)).symm hb.out), _, World.drewN_drewN ..⟩
            subst h
            rfl
      · go_wp2
        go_ret
        refine ⟨ret_bool (Eq.trans (decide_eq_true ?_).symm hb.out), _, rfl⟩
        have := ht.out
        rw [List.take_of_length_le (by have := HN.out; omega), List.take_of_length_le (by have := HM.out; omega)] at this
        exact this
  · have e1 : ((n : Int) != (m : Int)) = true := by simp; omega
    have HE := Lib.hid he
    clear he
    go_enter Try.func40, Try.ntmps40
    go_wp2
    go_ret
    exact ⟨ret_bool (Eq.trans (decide_eq_false (fun h => HE.out (by rw [HN.out, HM.out, h]))).symm hb.out), 0, rfl⟩
end Go.Proofs.Ytlnomadhgoblkaa.Kit
