/- Texts that the row leans on: PcL, PcM, PcN. -/
import Derived.Test.YtkadamoofiddeaaDoorProg
import Derived.Test.YtkadamoofiddeaaDoorQImageCanonsad
import Derived.Deep.RegionHeld3
import Derived.BigRegion
import Derived.Deep.DeepCutAuto
import Derived.Deep.CutBlock
import Derived.Deep.OwnRows
-- Canonical programs: how often an instruction names each (payoffref12.code).
set_option linter.unusedVariables false
set_option linter.unusedSimpArgs false
namespace Go.Proofs.YtkadamoofiddeaaDoor.Kit
open Go.RowKit
/-- how often instructions with that Op name i -/
def cntBy (o : Int) (L : List InsV) (i : Nat) : Nat := L.countP fun x => x.op == o && x.a == (i : Int)
def countedBy (n : Nat) (o : Int) (L : List InsV) : List Int := (List.range n).map fun (i : Nat) => (cntBy o L i : Int)
theorem countedBy_length (n : Nat) (o : Int) (L : List InsV) : (countedBy n o L).length = n := by simp [countedBy]
theorem countedBy_get (n : Nat) (o : Int) (L : List InsV) (i : Nat) (h : i < n) : (countedBy n o L)[i]? = some (cntBy o L i : Int) := by simp [countedBy, h]
theorem cntBy_le (o : Int) (L : List InsV) (i : Nat) : cntBy o L i ≤ L.length := List.countP_le_length
theorem countedBy_other {n : Nat} {o : Int} {L : List InsV} {x : InsV} (h : x.op ≠ o) : countedBy n o (L ++ [x]) = countedBy n o L := by
  have hf : (x.op == o) = false := by simpa using h
  simp [countedBy, cntBy, List.countP_append, hf]
theorem countedBy_snoc {n : Nat} {o : Int} {L : List InsV} {x : InsV} {i : Nat} (h : x.op = o) (hi : x.a = (i : Int)) : countedBy n o (L ++ [x]) = (countedBy n o L).set i ((cntBy o L i : Int) + 1) := by
  apply List.ext_getElem?
  intro j
  rw [List.getElem?_set]
  by_cases hj : j < n
  · rw [countedBy_get _ _ _ _ hj, countedBy_get _ _ _ _ hj, countedBy_length]
    by_cases hij : i = j
    · subst hij
      simp [cntBy, List.countP_append, h, hi, hj]
    · rw [if_neg hij]
      have hne : (x.a == (j : Int)) = false := by
        rw [hi]
        simpa using fun e : (i : Int) = (j : Int) => hij (by omega)
      simp [cntBy, List.countP_append, hne]
  · have e : ∀ M : List InsV, (countedBy n o M)[j]? = none := fun M => by simp [countedBy]; omega
    rw [e, e]
    by_cases hij : i = j
    · rw [if_pos hij, if_neg (by rw [countedBy_length]; omega)]
    · rw [if_neg hij]
theorem counted_named (n : Nat) (o : Int) (L : List InsV) : (∀ x ∈ countedBy n o L, x ≠ 0) ↔ ∀ x ∈ namedBy n o L, x = true := by
  have key : ∀ i : Nat, (cntBy o L i : Int) ≠ 0 ↔ (L.any fun x => x.op == o && x.a == (i : Int)) = true := fun i => by
    rw [List.any_eq_true, show ((cntBy o L i : Int) ≠ 0) ↔ 0 < cntBy o L i from by omega, cntBy, List.countP_pos_iff]
  simp only [countedBy, namedBy, List.mem_map, List.mem_range]
  constructor
  · rintro h x ⟨i, hi, rfl⟩
    exact (key i).1 (h _ ⟨i, hi, rfl⟩)
  · rintro h x ⟨i, hi, rfl⟩
    exact (key i).2 (h _ ⟨i, hi, rfl⟩)
theorem nums_set (k : IntKind) (l : List Int) (i : Nat) (x : Int) : (nums k l).set i (.int k x) = nums k (l.set i x) := by simp [nums, List.map_set]
/-- how often what is named, in block g; their rows lie in blocks of D -/
structure UsesC (w : World) (D : Nat → Prop) (g : Nat) (p : ProgV) (L : List InsV) : Prop where
  ex : ∃ A1 A2 A3 c1 c2 c3, Blk w g 64 [.slice A1 p.names.length c1, .slice A2 p.curs.length c2, .slice A3 p.pool.length c3] ∧ OwnV w 3 1 (.slice A1 p.names.length c1) p.names.length (nums .i64 (countedBy p.names.length 3 L)) ∧
    OwnV w 3 1 (.slice A2 p.curs.length c2) p.curs.length (nums .i64 (countedBy p.curs.length 28 L)) ∧ OwnV w 3 1 (.slice A3 p.pool.length c3) p.pool.length (nums .i64 (countedBy p.pool.length 1 L)) ∧
    (∀ a b : Addr, A1 = some a → A2 = some b → a.block ≠ b.block) ∧ (∀ a b : Addr, A1 = some a → A3 = some b → a.block ≠ b.block) ∧ (∀ a b : Addr, A2 = some a → A3 = some b → a.block ≠ b.block) ∧ (∀ a, A1 = some a → D a.block) ∧ (∀ a, A2 = some a → D a.block) ∧ ∀ a, A3 = some a → D a.block
  out : ¬ D g
  lt : ∀ y, D y → y < w.heap.size
theorem UsesC.chg {w w1 : World} {D S : Nat → Prop} {g : Nat} {p : ProgV} {L : List InsV} (h : UsesC w D g p L) (c : Chg S w w1) (hS : ∀ y, S y → ¬ D y ∧ y ≠ g) : UsesC w1 D g p L := by
  obtain ⟨A1, A2, A3, c1, c2, c3, hb, h1, h2, h3, d12, d13, d23, q1, q2, q3⟩ := h.ex
  have key : ∀ {A : Option Addr} {n c : Nat}, (∀ a, A = some a → D a.block) → ∀ y, Value.ownBlock (.slice A n c) = some y → ¬ S y := fun hq y hy hs => by
    obtain ⟨a, e, rfl⟩ := ob_of hy
    exact (hS _ hs).1 (hq a e)
  exact ⟨⟨A1, A2, A3, c1, c2, c3, hb.chg c (fun hs => (hS g hs).2 rfl), h1.chg c (key q1), h2.chg c (key q2), h3.chg c (key q3), d12, d13, d23, q1, q2, q3⟩, h.out, fun y hy => Nat.lt_of_lt_of_le (h.lt y hy) c.size⟩
theorem UsesC.chg0 {w w1 : World} {D : Nat → Prop} {g : Nat} {p : ProgV} {L : List InsV} (h : UsesC w D g p L) (c : Chg (fun _ => False) w w1) : UsesC w1 D g p L := h.chg c (fun _ h => h.elim)
theorem UsesC.other {w : World} {D : Nat → Prop} {g : Nat} {p : ProgV} {L : List InsV} {y : InsV} (h1 : y.op ≠ 1) (h3 : y.op ≠ 3) (h28 : y.op ≠ 28) (h : UsesC w D g p L) : UsesC w D g p (L ++ [y]) := by
  obtain ⟨A1, A2, A3, c1, c2, c3, hb, h4, h5, h6, r⟩ := h.ex
  exact ⟨⟨A1, A2, A3, c1, c2, c3, hb, by rw [countedBy_other h3]; exact h4, by rw [countedBy_other h28]; exact h5, by rw [countedBy_other h1]; exact h6, r⟩, h.out, h.lt⟩
end Go.Proofs.YtkadamoofiddeaaDoor.Kit
-- Canonical programs: the document's code (payoffref12).
set_option linter.unusedVariables false
set_option linter.unusedSimpArgs false
namespace Go.Proofs.YtkadamoofiddeaaDoor.Kit
open Go.RowKit
theorem nums_getq (k : IntKind) (l : List Int) (i : Nat) : (nums k l)[i]? = l[i]?.map (Value.int k) := by simp [nums]
theorem kAt_low : ∀ i, i < 29 → (kAt i).a < 262144 := by decide
theorem bnd_ins {p : ProgV} {x : InsV} (h : ValidP x) : x.a < bndOf p.names.length p.curs.length p.pool.length p.cells p.slots x.op ↔ InsP p x := by
  obtain ⟨op, a, b⟩ := x
  have hlo : a < 262144 := by
    obtain ⟨⟨h0, h1⟩, ⟨_, h2⟩, _⟩ := h
    simp only at h0 h1 h2
    have h3 := kAt_low op.toNat (by omega)
    omega
  clear h
  simp only [bndOf]
  constructor
  · intro h
    refine ⟨fun e => ?_, fun e => ?_, fun e => ?_, fun e => ?_, fun e => ?_⟩
    all_goals simp only at e ⊢
    · simpa [e] using h
    · simpa [e] using h
    · simpa [e] using h
    · rcases e with e | e <;> simpa [e] using h
    · rcases e with e | e <;> simpa [e] using h
  · rintro ⟨h1, h2, h3, h4, h5⟩
    simp only at h1 h2 h3 h4 h5
    by_cases e1 : op = 1
    · rw [if_pos e1]; exact h1 e1
    rw [if_neg e1]
    by_cases e2 : op = 3
    · rw [if_pos e2]; exact h2 e2
    rw [if_neg e2]
    by_cases e3 : op = 28
    · rw [if_pos e3]; exact h3 e3
    rw [if_neg e3]
    by_cases e4 : op = 4 ∨ op = 5
    · rw [if_pos e4]; exact h4 e4
    rw [if_neg e4]
    by_cases e5 : op = 6 ∨ op = 7
    · rw [if_pos e5]; exact h5 e5
    rw [if_neg e5]
    exact hlo
/-- what stays as it is while rows of D are written (the document's side) -/
structure StayR (w : World) (D : Nat → Prop) : Prop where
  k : ∀ W, Chg D w W → TblAt W
theorem StayR.next {w w1 : World} {D : Nat → Prop} (h : StayR w D) (c : Chg D w w1) : StayR w1 D := ⟨fun W cW => h.k W (c.trans cW (fun _ _ h => h))⟩
def UDayC (D : Nat → Prop) (g : Nat) (p : ProgV) (L l : List InsV) (b : Bool) (w : World) (e : Ending) (w' : World) : Prop :=
  e = .returned (.bool b) ∧ (b = true → UsesC w' D g p (L ++ l)) ∧ Chg D w w'
set_option maxRecDepth 20000 in
set_option maxHeartbeats 6400000 in
theorem refCode {D : Nat → Prop} {g : Nat} {s : ProgS} {p : ProgV} {L l : List InsV} {A : Option Addr} {n c : Nat} {w : World} {b : Bool} (hu : Hid (UsesC w D g p L)) (hs : Hid (StayR w D)) (hp : Hid (RdProg w s p)) (ok : Hid (ProgOk p)) (hL : Hid ((L ++ l).length ≤ 4611686018427387904)) (HN : Hid (n = l.length)) (hn : n ≤ 140737488355328) (hr : Hid (∀ W, Chg D w W → RdG W A (insCells l))) (hb : Hid (IsB b (DayP p l))) :
    Calls Tryd.prog 30 #[progVal s p, .slice A n c, .pointer (some ⟨g, 0, none⟩)] w (UDayC D g p L l b w) := by
  obtain ⟨n1, n2, n3, n4, A1, A2, A3, A4, c1, c2, c3, c4, HP0⟩ := hp.out.apart
  have HP := Lib.hid HP0
  obtain ⟨i1, hi1⟩ : ∃ x, x = p.horizon := ⟨_, rfl⟩
  obtain ⟨i2, hi2⟩ : ∃ x, x = p.cells := ⟨_, rfl⟩
  obtain ⟨i3, hi3⟩ : ∃ x, x = p.slots := ⟨_, rfl⟩
  obtain ⟨i4, hi4⟩ : ∃ x, x = p.stack := ⟨_, rfl⟩
  have EQ2 : Hid (progVal s p = .agg #[.slice A1 n1 c1, .slice A2 n2 c2, .slice A3 n3 c3, .int .i64 i1, .int .i64 i2, .int .i64 i3, .int .i64 i4, .slice A4 n4 c4]) := by rw [Hid, HP0.eq, hi1, hi2, hi3, hi4]
  have S1 : n1 ≤ 140737488355328 := by have := HP0.ln; have := ok.out.small.names; omega
  have S2 : n2 ≤ 140737488355328 := by have := HP0.lc; have := ok.out.small.curs; omega
  have S3 : n3 ≤ 140737488355328 := by have := HP0.lk; have := ok.out.small.pool; omega
  have LN := Lib.hid HP0.ln
  have LC := Lib.hid HP0.lc
  have LK := Lib.hid HP0.lk
  have I2 := Lib.hid hi2
  have I3 := Lib.hid hi3
  rw [EQ2.out]
  clear hi1 hi2 hi3 hi4 HP0
  obtain ⟨w0, hw0⟩ : ∃ x, x = w.alloc (.cells #[.slice A1 n1 c1, .slice A2 n2 c2, .slice A3 n3 c3, .int .i64 i1, .int .i64 i2, .int .i64 i3, .int .i64 i4, .slice A4 n4 c4] 26) := ⟨_, rfl⟩
  obtain ⟨g4, hg4⟩ : ∃ x, x = w.heap.size := ⟨_, rfl⟩
  have C0 : Hid (Chg (fun _ => False) w w0) := by rw [hw0]; exact (Chg.refl _ w).alloc _
  have B4 : Hid (Blk w0 g4 26 [.slice A1 n1 c1, .slice A2 n2 c2, .slice A3 n3 c3, .int .i64 i1, .int .i64 i2, .int .i64 i3, .int .i64 i4, .slice A4 n4 c4]) := by rw [hw0, hg4]; exact Blk.new _ _ _
  have hD4 : Hid (¬ D g4) := fun h => by
    have h1 := hu.out.lt _ h
    omega
  have NOT : Hid (¬ DayP p l → false = b) := fun h => b_false hb.out h
  by_cases h2 : 2 ≤ n
  · have h2i : ¬ (n : Int) < 2 := by omega
    have H2 := Lib.hid h2
    have dw : IntKind.i64.wrap ((n : Int) - 1) = (n : Int) - 1 := IntWalk.i64_in _ (by omega)
    go_enter Tryd.func30, Tryd.ntmps30
    go_wp2_with fail
    rw [← hw0, ← hg4]
    clear hw0 hg4
    go_loopw [7, 8] (fun i _ wr => ∃ k : Nat, k ≤ n ∧ i = .int .i64 k ∧ Hid (∀ j (h : j < l.length), j < k → GoodI p l.length j l[j]) ∧ Hid (UsesC wr D g p (L ++ l.take k)) ∧ Hid (Chg D w0 wr)) (fun i _ _ => n - (intOf i).toNat)
    case atStart => exact ⟨0, Nat.zero_le _, rfl, fun j h h' => absurd h' (by omega), by rw [Hid, List.take_zero, List.append_nil]; exact hu.out.chg0 C0.out, Chg.refl _ _⟩
    case round =>
      obtain ⟨k, hk, rfl, hg, UK, CK⟩ := hrel
      have CW : Hid (Chg D w wr) := (C0.out.mono (T := D) (fun _ _ h => h.elim)).trans CK.out (fun _ _ h => h)
      by_cases hlt : k < n
      · have h1 : k < l.length := by have := HN.out; omega
        obtain ⟨j0, j1, j2⟩ := insCells_get l k h1
        obtain ⟨a1, e1, hc1⟩ := hr.out wr CW.out _ _ j0
        obtain ⟨a2, e2, hc2⟩ := hr.out wr CW.out _ _ j1
        obtain ⟨a3, e3, hc3⟩ := hr.out wr CW.out _ _ j2
        subst e1
        cases e2
        cases e3
        obtain ⟨x, hx0⟩ : ∃ x, x = l[k] := ⟨_, rfl⟩
        rw [← hx0] at hc1 hc2 hc3
        rw [← add1] at hc2
        rw [← add2] at hc3
        have HX := Lib.hid hx0
        have B4r := Lib.hid (B4.out.chg CK.out hD4.out)
        clear hx0 j0 j1 j2
        obtain ⟨xo, xa, xb⟩ := x
        simp only at hc1 hc2 hc3
        obtain ⟨wx, hwx⟩ : ∃ y, y = wr.alloc (.cells #[.int .i64 xo, .int .i64 xa, .int .i64 xb] 47) := ⟨_, rfl⟩
        obtain ⟨g9, hg9⟩ : ∃ y, y = wr.heap.size := ⟨_, rfl⟩
        have CX : Hid (Chg (fun _ => False) wr wx) := by rw [hwx]; exact (Chg.refl _ wr).alloc _
        have B9 : Hid (Blk wx g9 47 [.int .i64 xo, .int .i64 xa, .int .i64 xb]) := by rw [hwx, hg9]; exact Blk.new _ _ _
        have CWX : Hid (Chg D w wx) := CW.out.trans (CX.out.mono (T := D) (fun _ _ h => h.elim)) (fun _ _ h => h)
        have KX : Hid (TblAt wx) := hs.out.k wx CWX.out
        have hD9 : Hid (¬ D g9) := fun h => by
          have h1 := UK.out.lt _ h
          omega
        have b1 : (0 : Int) ≤ (k : Int) := by omega
        have b2 : (k : Int) < (n : Int) := by omega
        obtain ⟨er, her⟩ : ∃ e, validE ⟨xo, xa, xb⟩ = e := ⟨_, rfl⟩
        have HER := Lib.hid her
        have hor : er = 0 ∨ er = 111 := by rw [← her]; exact validE_or _
        obtain ⟨z1, hz1⟩ : ∃ b, (xo == 0) = b := ⟨_, rfl⟩
        obtain ⟨z2, hz2⟩ : ∃ b, ((k : Int) == (n : Int) - 1) = b := ⟨_, rfl⟩
        have FIN : Hid ((z1 = z2) ↔ (xo = 0 ↔ k + 1 = l.length)) := Lib.hid (by
          rw [← hz1, ← hz2, Bool.eq_iff_iff]
          simp only [beq_iff_eq]
          rw [← HN.out]
          constructor
          · intro h
            exact ⟨fun e => by have := h.1 e; omega, fun e => h.2 (by omega)⟩
          · intro h
            exact ⟨fun e => by have := h.1 e; omega, fun e => h.2 (by omega)⟩)
        have NO : Hid (¬ GoodI p l.length k ⟨xo, xa, xb⟩ → false = b) := Lib.hid (fun h => NOT.out (fun h3 => h (by rw [HX.out]; exact h3.2 k h1)))
        clear her
        go_wp2_with fail
        rw [← hwx, ← hg9]
        clear hwx hg9 hc1 hc2 hc3
        refine (refValid KX HER).mono ?_
        rintro e w2 ⟨rfl, cc⟩
        have CC : Hid (Chg (fun _ => False) wx w2) := cc
        clear cc
        have B92 := Lib.hid (B9.out.chg CC.out (fun h => h))
        have t0 := B92.out.at_ (i := 0) rfl
        have B42 := Lib.hid ((B4r.out.chg CX.out (fun h => h)).chg CC.out (fun h => h))
        have CW2 : Hid (Chg D w w2) := CWX.out.trans (CC.out.mono (T := D) (fun _ _ h => h.elim)) (fun _ _ h => h)
        have C02 : Hid (Chg D w0 w2) := (CK.out.trans (CX.out.mono (T := D) (fun _ _ h => h.elim)) (fun _ _ h => h)).trans (CC.out.mono (T := D) (fun _ _ h => h.elim)) (fun _ _ h => h)
        have U2 : Hid (UsesC w2 D g p (L ++ l.take k)) := (UK.out.chg0 CX.out).chg0 CC.out
        rcases hor with rfl | rfl
        rotate_left
        · have HNF : Hid (false = b) := NO.out (fun h => by have h3 := validE_0.2 h.valid; rw [HER.out] at h3; exact absurd h3 (by decide))
          go_wp2_with fail
          go_ret
          exact ⟨ret_bool HNF.out, (fun h => by rw [← HNF.out] at h; cases h), CW2.out⟩
        have HV : Hid (ValidP ⟨xo, xa, xb⟩) := validE_0.1 HER.out
        have ha0 : 0 ≤ xa := HV.out.2.1.1
        by_cases hzz : z1 = z2
        rotate_left
        · have HNF : Hid (false = b) := NO.out (fun h => hzz (FIN.out.2 h.fin))
          have zz : (z1 == z2) = false := by simpa using hzz
          go_wp2_with fail
          go_ret
          exact ⟨ret_bool HNF.out, (fun h => by rw [← HNF.out] at h; cases h), CW2.out⟩
        have HFI := Lib.hid (FIN.out.1 hzz)
        subst hzz
        obtain ⟨bd, hbd⟩ : ∃ r, bndOf n1 n2 n3 i2 i3 xo = r := ⟨_, rfl⟩
        have HBD := Lib.hid hbd
        have BI : Hid (xa < bd ↔ InsP p ⟨xo, xa, xb⟩) := Lib.hid (by rw [← hbd, LN.out, LC.out, LK.out, I2.out, I3.out]; exact bnd_ins HV.out)
        clear hbd
        have FT : Hid (∀ W, Chg (fun _ => False) w2 W → W.cell? ⟨g9, 0, none⟩ = some (.int .i64 xo) ∧ W.cell? ⟨g9, 1, none⟩ = some (.int .i64 xa) ∧ W.cell? ⟨g4, 0, none⟩ = some (.slice A1 n1 c1) ∧ W.cell? ⟨g4, 1, none⟩ = some (.slice A2 n2 c2) ∧ W.cell? ⟨g4, 2, none⟩ = some (.slice A3 n3 c3) ∧ W.cell? ⟨g4, 3, none⟩ = some (.int .i64 i1) ∧ W.cell? ⟨g4, 4, none⟩ = some (.int .i64 i2) ∧ W.cell? ⟨g4, 5, none⟩ = some (.int .i64 i3) ∧ W.cell? ⟨g4, 6, none⟩ = some (.int .i64 i4) ∧ W.cell? ⟨g4, 7, none⟩ = some (.slice A4 n4 c4)) := fun W cW => ⟨(B92.out.chg cW (fun h => h)).at_ (i := 0) rfl, (B92.out.chg cW (fun h => h)).at_ (i := 1) rfl, (B42.out.chg cW (fun h => h)).at_ (i := 0) rfl, (B42.out.chg cW (fun h => h)).at_ (i := 1) rfl, (B42.out.chg cW (fun h => h)).at_ (i := 2) rfl, (B42.out.chg cW (fun h => h)).at_ (i := 3) rfl, (B42.out.chg cW (fun h => h)).at_ (i := 4) rfl, (B42.out.chg cW (fun h => h)).at_ (i := 5) rfl, (B42.out.chg cW (fun h => h)).at_ (i := 6) rfl, (B42.out.chg cW (fun h => h)).at_ (i := 7) rfl⟩
        go_upto_region 9 with fail
        clear t0
        go_region_held3 (fun W => W.cell? ⟨g9, 0, none⟩ = some (.int .i64 xo) ∧ W.cell? ⟨g9, 1, none⟩ = some (.int .i64 xa) ∧ W.cell? ⟨g4, 0, none⟩ = some (.slice A1 n1 c1) ∧ W.cell? ⟨g4, 1, none⟩ = some (.slice A2 n2 c2) ∧ W.cell? ⟨g4, 2, none⟩ = some (.slice A3 n3 c3) ∧ W.cell? ⟨g4, 3, none⟩ = some (.int .i64 i1) ∧ W.cell? ⟨g4, 4, none⟩ = some (.int .i64 i2) ∧ W.cell? ⟨g4, 5, none⟩ = some (.int .i64 i3) ∧ W.cell? ⟨g4, 6, none⟩ = some (.int .i64 i4) ∧ W.cell? ⟨g4, 7, none⟩ = some (.slice A4 n4 c4)) (exact FT.out _ (by repeat (first | exact C23.out | exact Chg.refl _ _ | refine Chg.drew ?_ | refine Chg.drewN ?_ _ | refine Chg.alloc ?_ _))) (first | (go_at_call 59; (with_reducible refine (refBound HBD).mono ?_); rintro e w3 ⟨rfl, c3'⟩; have C23 : Hid (Chg (fun _ => False) w2 w3) := (show Chg (fun _ => False) w2 _ from by repeat (first | exact Chg.refl _ _ | refine Chg.drew ?_ | refine Chg.drewN ?_ _ | refine Chg.alloc ?_ _)).trans c3' (fun _ _ h => h); clear c3'))
        have B93 := Lib.hid (B92.out.chg C23.out (fun h => h))
        have C03 : Hid (Chg D w0 w3) := C02.out.trans (C23.out.mono (T := D) (fun _ _ h => h.elim)) (fun _ _ h => h)
        have CW3 : Hid (Chg D w w3) := CW2.out.trans (C23.out.mono (T := D) (fun _ _ h => h.elim)) (fun _ _ h => h)
        have U3 : Hid (UsesC w3 D g p (L ++ l.take k)) := U2.out.chg0 C23.out
        by_cases hge : bd ≤ xa
        · have HNF : Hid (false = b) := NO.out (fun h => by have := BI.out.2 h.ins; omega)
          go_wp2_with fail
          go_ret
          exact ⟨ret_bool HNF.out, (fun h => by rw [← HNF.out] at h; cases h), CW3.out⟩
        have HIP : Hid (InsP p ⟨xo, xa, xb⟩) := BI.out.1 (by omega)
        have hge2 : xa < bd := by omega
        clear hge
        have GD : Hid (∀ j (h : j < l.length), j < k + 1 → GoodI p l.length j l[j]) := fun j h hj => by
          by_cases hjk : j < k
          · exact hg.out j h hjk
          · obtain rfl : j = k := by omega
            rw [← HX.out]
            exact ⟨HV.out, HFI.out, HIP.out⟩
        have TK : Hid (L ++ l.take (k + 1) = (L ++ l.take k) ++ [⟨xo, xa, xb⟩]) := by rw [Hid, List.take_succ_eq_append_getElem h1, ← HX.out, ← List.append_assoc]
        obtain ⟨M, hM⟩ : ∃ M, M = L ++ l.take k := ⟨_, rfl⟩
        have hML : M.length ≤ 4611686018427387904 := by
          have := hL.out
          rw [hM, List.length_append, List.length_take]
          rw [List.length_append] at this
          omega
        rw [← hM] at U3 TK
        have HM := Lib.hid hM
        clear hM
        have s0 := B93.out.at_ (i := 0) rfl
        by_cases ho : xo = 1
        · have HO := Lib.hid ho
          have z1 : (xo == 1) = true := by rw [ho]; rfl
          have z3 : (xo == 3) = false := by rw [ho]; rfl
          have z28 : (xo == 28) = false := by rw [ho]; rfl
          clear ho
          obtain ⟨U1', U2', U3', u1, u2, u3, ub, ow1, ow2, ow3, d12, d13, d23, e1', e2', e3'⟩ := U3.out.ex
          rw [← LN.out] at ub ow1
          rw [← LC.out] at ub ow2
          rw [← LK.out] at ub ow3
          have OW1 := Lib.hid ow1
          have OW2 := Lib.hid ow2
          have OW3 := Lib.hid ow3
          have UBB := Lib.hid ub
          have DD := Lib.hid (And.intro d12 (And.intro d13 d23))
          have EE := Lib.hid (And.intro e1' (And.intro e2' e3'))
          obtain ⟨m, hm0⟩ : ∃ m : Nat, xa = m := ⟨xa.toNat, by omega⟩
          have hmn : m < n3 := by have := HIP.out.k HO.out; simp only at this; rw [← LK.out] at this; omega
          obtain ⟨gr, hgr, fz, cz⟩ := ow3.baseOf (Nat.lt_of_le_of_lt (Nat.zero_le m) hmn)
          have fzm := fz m (by omega)
          obtain ⟨ct, hct⟩ : ∃ z, z = cntBy 1 M m := ⟨_, rfl⟩
          have czm := cz m (.int .i64 (ct : Int)) (by rw [nums_getq, countedBy_get _ _ _ _ hmn, hct]; rfl)
          have HCT := Lib.hid hct
          have hcl : ct ≤ 4611686018427387904 := by rw [hct]; exact Nat.le_trans (cntBy_le _ _ _) hML
          have wp : IntKind.i64.wrap ((ct : Int) + 1) = (ct : Int) + 1 := IntWalk.i64_in _ (by omega)
          have hgD : D gr := EE.out.2.2 _ hgr
          clear ub ow1 ow2 ow3 d12 d13 d23 e1' e2' e3' fz cz hct
          subst hgr
          have b5 : (0 : Int) ≤ (m : Int) := by omega
          have b6 : (m : Int) < (n3 : Int) := by omega
          subst hm0
          have f0 := UBB.out.at_ (i := 2) rfl
          have f1 := B93.out.at_ (i := 1) rfl
          have f2 := B93.out.at_ (i := 0) rfl
          have HGD := Lib.hid hgD
          clear hgD
          go_upto_region 13 with fail
          go_region
          obtain ⟨w5, hw5⟩ : ∃ y, y = (w3.setCell ⟨gr, m, none⟩ (.int .i64 ((ct : Int) + 1))).drew := ⟨_, rfl⟩
          have CS : Chg (fun y => y = gr) w3 w5 := by rw [hw5]; exact ((Chg.refl (fun y => y = gr) w3).setCell (p := ⟨gr, m, none⟩) (fun _ => rfl) _).drew
          have stored := (OW3.out.store1 hmn (.int .i64 ((ct : Int) + 1))).chg (S := fun _ => False) ((Chg.refl _ _).drew) (fun _ _ h => h)
          rw [← hw5, nums_set, HCT.out, ← countedBy_snoc (x := ⟨xo, m, xb⟩) HO.out rfl] at stored
          have HST := Lib.hid stored
          have HCS := Lib.hid CS
          rw [← hw5]
          clear hw5 stored CS
          go_wp2_with fail
          go_roundw
          case rel =>
            have stored := HST.out
            have CS := HCS.out
            refine ⟨k + 1, by omega, by go_num, GD.out, ?_, C03.out.trans CS (fun y _ e => by rw [e]; exact HGD.out)⟩
            rw [Hid, TK.out]
            refine ⟨⟨U1', U2', some ⟨gr, 0, none⟩, u1, u2, u3, ?_, ?_, ?_, ?_, DD.out.1, DD.out.2.1, DD.out.2.2, EE.out.1, EE.out.2.1, EE.out.2.2⟩, U3.out.out, fun y hy => Nat.lt_of_lt_of_le (U3.out.lt y hy) CS.size⟩
            · rw [← LN.out, ← LC.out, ← LK.out]
              exact UBB.out.chg CS (fun e => U3.out.out (by rw [e]; exact HGD.out))
            · rw [← LN.out, countedBy_other (show xo ≠ 3 from fun e => absurd (HO.out.symm.trans e) (by decide))]
              exact OW1.out.chg CS (fun y hy e => by obtain ⟨a, ea, eb⟩ := ob_of hy; exact DD.out.2.1 a _ ea rfl (by rw [eb, e]))
            · rw [← LC.out, countedBy_other (show xo ≠ 28 from fun e => absurd (HO.out.symm.trans e) (by decide))]
              exact OW2.out.chg CS (fun y hy e => by obtain ⟨a, ea, eb⟩ := ob_of hy; exact DD.out.2.2 a _ ea rfl (by rw [eb, e]))
            · rw [← LK.out]
              exact stored
          case measure => simp [intOf]; omega
        have HO1 := Lib.hid ho
        clear ho
        by_cases ho : xo = 3
        · have HO := Lib.hid ho
          have z1 : (xo == 1) = false := by rw [ho]; rfl
          have z3 : (xo == 3) = true := by rw [ho]; rfl
          have z28 : (xo == 28) = false := by rw [ho]; rfl
          clear ho
          obtain ⟨U1', U2', U3', u1, u2, u3, ub, ow1, ow2, ow3, d12, d13, d23, e1', e2', e3'⟩ := U3.out.ex
          rw [← LN.out] at ub ow1
          rw [← LC.out] at ub ow2
          rw [← LK.out] at ub ow3
          have OW1 := Lib.hid ow1
          have OW2 := Lib.hid ow2
          have OW3 := Lib.hid ow3
          have UBB := Lib.hid ub
          have DD := Lib.hid (And.intro d12 (And.intro d13 d23))
          have EE := Lib.hid (And.intro e1' (And.intro e2' e3'))
          obtain ⟨m, hm0⟩ : ∃ m : Nat, xa = m := ⟨xa.toNat, by omega⟩
          have hmn : m < n1 := by have := HIP.out.n HO.out; simp only at this; rw [← LN.out] at this; omega
          obtain ⟨gr, hgr, fz, cz⟩ := ow1.baseOf (Nat.lt_of_le_of_lt (Nat.zero_le m) hmn)
          have fzm := fz m (by omega)
          obtain ⟨ct, hct⟩ : ∃ z, z = cntBy 3 M m := ⟨_, rfl⟩
          have czm := cz m (.int .i64 (ct : Int)) (by rw [nums_getq, countedBy_get _ _ _ _ hmn, hct]; rfl)
          have HCT := Lib.hid hct
          have hcl : ct ≤ 4611686018427387904 := by rw [hct]; exact Nat.le_trans (cntBy_le _ _ _) hML
          have wp : IntKind.i64.wrap ((ct : Int) + 1) = (ct : Int) + 1 := IntWalk.i64_in _ (by omega)
          have hgD : D gr := EE.out.1 _ hgr
          clear ub ow1 ow2 ow3 d12 d13 d23 e1' e2' e3' fz cz hct
          subst hgr
          have b5 : (0 : Int) ≤ (m : Int) := by omega
          have b6 : (m : Int) < (n1 : Int) := by omega
          subst hm0
          have f0 := UBB.out.at_ (i := 0) rfl
          have f1 := B93.out.at_ (i := 1) rfl
          have f2 := B93.out.at_ (i := 0) rfl
          have HGD := Lib.hid hgD
          clear hgD
          go_upto_region 15 with fail
          go_region
          obtain ⟨w5, hw5⟩ : ∃ y, y = (w3.setCell ⟨gr, m, none⟩ (.int .i64 ((ct : Int) + 1))).drew := ⟨_, rfl⟩
          have CS : Chg (fun y => y = gr) w3 w5 := by rw [hw5]; exact ((Chg.refl (fun y => y = gr) w3).setCell (p := ⟨gr, m, none⟩) (fun _ => rfl) _).drew
          have stored := (OW1.out.store1 hmn (.int .i64 ((ct : Int) + 1))).chg (S := fun _ => False) ((Chg.refl _ _).drew) (fun _ _ h => h)
          rw [← hw5, nums_set, HCT.out, ← countedBy_snoc (x := ⟨xo, m, xb⟩) HO.out rfl] at stored
          have HST := Lib.hid stored
          have HCS := Lib.hid CS
          rw [← hw5]
          clear hw5 stored CS
          go_wp2_with fail
          go_roundw
          case rel =>
            have stored := HST.out
            have CS := HCS.out
            refine ⟨k + 1, by omega, by go_num, GD.out, ?_, C03.out.trans CS (fun y _ e => by rw [e]; exact HGD.out)⟩
            rw [Hid, TK.out]
            refine ⟨⟨some ⟨gr, 0, none⟩, U2', U3', u1, u2, u3, ?_, ?_, ?_, ?_, DD.out.1, DD.out.2.1, DD.out.2.2, EE.out.1, EE.out.2.1, EE.out.2.2⟩, U3.out.out, fun y hy => Nat.lt_of_lt_of_le (U3.out.lt y hy) CS.size⟩
            · rw [← LN.out, ← LC.out, ← LK.out]
              exact UBB.out.chg CS (fun e => U3.out.out (by rw [e]; exact HGD.out))
            · rw [← LN.out]
              exact stored
            · rw [← LC.out, countedBy_other (show xo ≠ 28 from fun e => absurd (HO.out.symm.trans e) (by decide))]
              exact OW2.out.chg CS (fun y hy e => by obtain ⟨a, ea, eb⟩ := ob_of hy; exact DD.out.1 _ a rfl ea (by rw [eb, e]))
            · rw [← LK.out, countedBy_other (show xo ≠ 1 from fun e => absurd (HO.out.symm.trans e) (by decide))]
              exact OW3.out.chg CS (fun y hy e => by obtain ⟨a, ea, eb⟩ := ob_of hy; exact DD.out.2.1 _ a rfl ea (by rw [eb, e]))
          case measure => simp [intOf]; omega
        have HO3 := Lib.hid ho
        clear ho
        by_cases ho : xo = 28
        · have HO := Lib.hid ho
          have z1 : (xo == 1) = false := by rw [ho]; rfl
          have z3 : (xo == 3) = false := by rw [ho]; rfl
          have z28 : (xo == 28) = true := by rw [ho]; rfl
          clear ho
          obtain ⟨U1', U2', U3', u1, u2, u3, ub, ow1, ow2, ow3, d12, d13, d23, e1', e2', e3'⟩ := U3.out.ex
          rw [← LN.out] at ub ow1
          rw [← LC.out] at ub ow2
          rw [← LK.out] at ub ow3
          have OW1 := Lib.hid ow1
          have OW2 := Lib.hid ow2
          have OW3 := Lib.hid ow3
          have UBB := Lib.hid ub
          have DD := Lib.hid (And.intro d12 (And.intro d13 d23))
          have EE := Lib.hid (And.intro e1' (And.intro e2' e3'))
          obtain ⟨m, hm0⟩ : ∃ m : Nat, xa = m := ⟨xa.toNat, by omega⟩
          have hmn : m < n2 := by have := HIP.out.c HO.out; simp only at this; rw [← LC.out] at this; omega
          obtain ⟨gr, hgr, fz, cz⟩ := ow2.baseOf (Nat.lt_of_le_of_lt (Nat.zero_le m) hmn)
          have fzm := fz m (by omega)
          obtain ⟨ct, hct⟩ : ∃ z, z = cntBy 28 M m := ⟨_, rfl⟩
          have czm := cz m (.int .i64 (ct : Int)) (by rw [nums_getq, countedBy_get _ _ _ _ hmn, hct]; rfl)
          have HCT := Lib.hid hct
          have hcl : ct ≤ 4611686018427387904 := by rw [hct]; exact Nat.le_trans (cntBy_le _ _ _) hML
          have wp : IntKind.i64.wrap ((ct : Int) + 1) = (ct : Int) + 1 := IntWalk.i64_in _ (by omega)
          have hgD : D gr := EE.out.2.1 _ hgr
          clear ub ow1 ow2 ow3 d12 d13 d23 e1' e2' e3' fz cz hct
          subst hgr
          have b5 : (0 : Int) ≤ (m : Int) := by omega
          have b6 : (m : Int) < (n2 : Int) := by omega
          subst hm0
          have f0 := UBB.out.at_ (i := 1) rfl
          have f1 := B93.out.at_ (i := 1) rfl
          have f2 := B93.out.at_ (i := 0) rfl
          have HGD := Lib.hid hgD
          clear hgD
          go_upto_region 17 with fail
          go_region
          obtain ⟨w5, hw5⟩ : ∃ y, y = (w3.setCell ⟨gr, m, none⟩ (.int .i64 ((ct : Int) + 1))).drew := ⟨_, rfl⟩
          have CS : Chg (fun y => y = gr) w3 w5 := by rw [hw5]; exact ((Chg.refl (fun y => y = gr) w3).setCell (p := ⟨gr, m, none⟩) (fun _ => rfl) _).drew
          have stored := (OW2.out.store1 hmn (.int .i64 ((ct : Int) + 1))).chg (S := fun _ => False) ((Chg.refl _ _).drew) (fun _ _ h => h)
          rw [← hw5, nums_set, HCT.out, ← countedBy_snoc (x := ⟨xo, m, xb⟩) HO.out rfl] at stored
          have HST := Lib.hid stored
          have HCS := Lib.hid CS
          rw [← hw5]
          clear hw5 stored CS
          go_wp2_with fail
          go_roundw
          case rel =>
            have stored := HST.out
            have CS := HCS.out
            refine ⟨k + 1, by omega, by go_num, GD.out, ?_, C03.out.trans CS (fun y _ e => by rw [e]; exact HGD.out)⟩
            rw [Hid, TK.out]
            refine ⟨⟨U1', some ⟨gr, 0, none⟩, U3', u1, u2, u3, ?_, ?_, ?_, ?_, DD.out.1, DD.out.2.1, DD.out.2.2, EE.out.1, EE.out.2.1, EE.out.2.2⟩, U3.out.out, fun y hy => Nat.lt_of_lt_of_le (U3.out.lt y hy) CS.size⟩
            · rw [← LN.out, ← LC.out, ← LK.out]
              exact UBB.out.chg CS (fun e => U3.out.out (by rw [e]; exact HGD.out))
            · rw [← LN.out, countedBy_other (show xo ≠ 3 from fun e => absurd (HO.out.symm.trans e) (by decide))]
              exact OW1.out.chg CS (fun y hy e => by obtain ⟨a, ea, eb⟩ := ob_of hy; exact DD.out.1 a _ ea rfl (by rw [eb, e]))
            · rw [← LC.out]
              exact stored
            · rw [← LK.out, countedBy_other (show xo ≠ 1 from fun e => absurd (HO.out.symm.trans e) (by decide))]
              exact OW3.out.chg CS (fun y hy e => by obtain ⟨a, ea, eb⟩ := ob_of hy; exact DD.out.2.2 _ a rfl ea (by rw [eb, e]))
          case measure => simp [intOf]; omega
        have HO28 := Lib.hid ho
        clear ho
        have z1 : (xo == 1) = false := by simpa using HO1.out
        have z3 : (xo == 3) = false := by simpa using HO3.out
        have z28 : (xo == 28) = false := by simpa using HO28.out
        have f2 := B93.out.at_ (i := 0) rfl
        go_wp2_with fail
        go_roundw
        case rel =>
          refine ⟨k + 1, by omega, by go_num, GD.out, ?_, C03.out⟩
          rw [Hid, TK.out]
          exact UsesC.other (fun e => HO1.out e) (fun e => HO3.out e) (fun e => HO28.out e) U3.out
        case measure => simp [intOf]; omega
      · obtain rfl : k = n := by omega
        have HT : Hid (true = b) := b_true hb.out ⟨by rw [← HN.out]; exact h2, fun i h => hg.out i h (by rw [HN.out]; exact h)⟩
        go_wp2_with fail
        go_ret
        refine ⟨ret_bool HT.out, fun _ => ?_, CW.out⟩
        have h3 := UK.out
        rw [List.take_of_length_le (by rw [HN.out]; exact Nat.le_refl _)] at h3
        exact h3
  · have h2i : (n : Int) < 2 := by omega
    have HF : Hid (false = b) := NOT.out (fun h => h2 (by rw [HN.out]; exact h.1))
    clear h2
    go_enter Tryd.func30, Tryd.ntmps30
    go_wp2_with fail
    rw [← hw0]
    go_ret
    exact ⟨ret_bool HF.out, (fun h => by rw [← HF.out] at h; cases h), C0.out.mono (fun _ _ h => h.elim)⟩
end Go.Proofs.YtkadamoofiddeaaDoor.Kit
-- Canonical programs: the document's Canon (payoffref12).
set_option linter.unusedVariables false
set_option linter.unusedSimpArgs false
namespace Go.Proofs.YtkadamoofiddeaaDoor.Kit
open Go.RowKit
theorem infoIntG : (Tryd.prog.info? 3).map (fun i => (i.zero, i.size, i.bytes)) = some (some (.int .i64 0), 1, 8) := by kernel_rfl
theorem OwnV.madeI (W : World) (e : TypeId) (n b : Nat) (hb : b = W.heap.size) (hm : n ≤ maxLen) : OwnV (W.alloc (.cells (madeCells #[.int .i64 0] n) e)) e 1 (.slice (some ⟨b, 0, none⟩) n n) n (nums .i64 (List.replicate n 0)) := by
  subst hb
  refine ⟨by simp [nums], .inr ⟨W.heap.size, n, (madeCells #[.int .i64 0] n).toList, rfl, Blk.new W _ e, Nat.le_refl _, hm, ?_, ?_⟩⟩
  · rw [Array.length_toList, size_madeCells]
    omega
  · rw [toList_madeCells_one, Nat.mul_one, List.take_of_length_le (by simp)]
    simp [nums]
theorem countedBy_nil (n : Nat) (o : Int) : countedBy n o [] = List.replicate n 0 := by
  apply List.ext_getElem
  · simp [countedBy]
  · intro i h1 h2
    simp [countedBy, cntBy]
/-- a new box of lists, none named -/
theorem UsesC.start {W W3 : World} {p : ProgV} {b1 b2 b3 g n1 n2 n3 : Nat} (LN : n1 = p.names.length) (LC : n2 = p.curs.length) (LK : n3 = p.pool.length) (hb : Blk W g 64 [.slice (some ⟨b1, 0, none⟩) n1 n1, .slice (some ⟨b2, 0, none⟩) n2 n2, .slice (some ⟨b3, 0, none⟩) n3 n3])
    (h1 : OwnV W3 3 1 (.slice (some ⟨b1, 0, none⟩) n1 n1) n1 (nums .i64 (List.replicate n1 0))) (h2 : OwnV W3 3 1 (.slice (some ⟨b2, 0, none⟩) n2 n2) n2 (nums .i64 (List.replicate n2 0))) (h3 : OwnV W3 3 1 (.slice (some ⟨b3, 0, none⟩) n3 n3) n3 (nums .i64 (List.replicate n3 0)))
    (c3 : Chg (fun _ => False) W3 W) (hd : b1 ≠ b2 ∧ b1 ≠ b3 ∧ b2 ≠ b3) (hl : b1 < g ∧ b2 < g ∧ b3 < g) (hg : g < W.heap.size) : UsesC W (fun y => y = b1 ∨ y = b2 ∨ y = b3) g p [] := by
  subst LN LC LK
  refine ⟨⟨_, _, _, _, _, _, hb, ?_, ?_, ?_, ?_, ?_, ?_, ?_, ?_, ?_⟩, ?_, ?_⟩
  · rw [countedBy_nil]; exact h1.chg c3 (fun _ _ h => h)
  · rw [countedBy_nil]; exact h2.chg c3 (fun _ _ h => h)
  · rw [countedBy_nil]; exact h3.chg c3 (fun _ _ h => h)
  · intro a b ha hb'; injection ha with ha; injection hb' with hb'; subst ha hb'; exact hd.1
  · intro a b ha hb'; injection ha with ha; injection hb' with hb'; subst ha hb'; exact hd.2.1
  · intro a b ha hb'; injection ha with ha; injection hb' with hb'; subst ha hb'; exact hd.2.2
  · intro a ha; injection ha with ha; subst ha; exact .inl rfl
  · intro a ha; injection ha with ha; subst ha; exact .inr (.inl rfl)
  · intro a ha; injection ha with ha; subst ha; exact .inr (.inr rfl)
  · rintro (h | h | h) <;> omega
  · rintro y (h | h | h) <;> omega
theorem UsesC.start' {W3 : World} {p : ProgV} {b1 b2 b3 g n1 n2 n3 : Nat} (LN : n1 = p.names.length) (LC : n2 = p.curs.length) (LK : n3 = p.pool.length)
    (h1 : OwnV W3 3 1 (.slice (some ⟨b1, 0, none⟩) n1 n1) n1 (nums .i64 (List.replicate n1 0))) (h2 : OwnV W3 3 1 (.slice (some ⟨b2, 0, none⟩) n2 n2) n2 (nums .i64 (List.replicate n2 0))) (h3 : OwnV W3 3 1 (.slice (some ⟨b3, 0, none⟩) n3 n3) n3 (nums .i64 (List.replicate n3 0)))
    (hg : g = W3.heap.size) (hd : b1 ≠ b2 ∧ b1 ≠ b3 ∧ b2 ≠ b3) (hl : b1 < g ∧ b2 < g ∧ b3 < g) : UsesC ((W3.alloc (.cells #[.slice (some ⟨b1, 0, none⟩) n1 n1, .slice (some ⟨b2, 0, none⟩) n2 n2, .slice (some ⟨b3, 0, none⟩) n3 n3] 64)).drew) (fun y => y = b1 ∨ y = b2 ∨ y = b3) g p [] := by
  have c3 : Chg (fun _ => False) W3 ((W3.alloc (.cells #[.slice (some ⟨b1, 0, none⟩) n1 n1, .slice (some ⟨b2, 0, none⟩) n2 n2, .slice (some ⟨b3, 0, none⟩) n3 n3] 64)).drew) := ((Chg.refl _ _).alloc _).drew
  have hb : Blk (W3.alloc (.cells #[.slice (some ⟨b1, 0, none⟩) n1 n1, .slice (some ⟨b2, 0, none⟩) n2 n2, .slice (some ⟨b3, 0, none⟩) n3 n3] 64)) g 64 [.slice (some ⟨b1, 0, none⟩) n1 n1, .slice (some ⟨b2, 0, none⟩) n2 n2, .slice (some ⟨b3, 0, none⟩) n3 n3] := by rw [hg]; exact Blk.new _ _ _
  refine UsesC.start LN LC LK (hb.chg (S := fun _ => False) ((Chg.refl _ _).drew) (fun h => h)) h1 h2 h3 c3 hd hl ?_
  rw [hg]
  simp
theorem run_makeI {P : Program} (t e : TypeId) (ht : P.underlying t = some (.slice e)) (hinfo : (P.info? e).map (fun i => (i.zero, i.size, i.bytes)) = some (some (.int .i64 0), 1, 8)) (n : Nat) (hn : n * 8 ≤ 140737488355328) (W : World) :
    (Instr.makeSlice t (.int .i64 (n : Int)) (.int .i64 (n : Int))).run P W = .ok (.slice (some ⟨W.heap.size, 0, none⟩) n n) (W.alloc (.cells (madeCells #[.int .i64 0] n) e)) :=
  run_make_row' (P := P) t e (.int .i64 0) 8 ht hinfo rfl .i64 .i64 n (by omega) (by omega) W
structure GoodR (p : ProgV) (i : Nat) (x : SegV) : Prop where
  up : dayAhead p i < x.day
  le : x.day ≤ p.horizon
  code : DayP p x.code
theorem codeLen_mono {p : ProgV} {k m : Nat} (h : k ≤ m) : codeLen p k ≤ codeLen p m := by
  induction m with
  | zero => have : k = 0 := by omega
            subst this; exact Nat.le_refl _
  | succ m ih =>
    by_cases hk : k ≤ m
    · refine Nat.le_trans (ih hk) ?_
      by_cases hm : m < p.days.length
      · rw [codeLen_succ hm]; omega
      · unfold codeLen
        rw [List.take_of_length_le (by omega), List.take_of_length_le (by omega)]
        exact Nat.le_refl _
    · have : k = m + 1 := by omega
      subst this; exact Nat.le_refl _
theorem codeOf_length (p : ProgV) (k : Nat) : (codeOf p k).length = codeLen p k := by
  unfold codeOf codeLen
  rw [List.length_flatMap]
theorem goodD_iff {p : ProgV} : (∀ i (h : i < p.days.length), GoodD p i p.days[i]) ↔ (∀ i (h : i < p.days.length), GoodR p i p.days[i]) ∧ codeLen p p.days.length ≤ 262144 := by
  constructor
  · intro h
    refine ⟨fun i hi => ⟨(h i hi).up, (h i hi).le, (h i hi).code⟩, ?_⟩
    by_cases h0 : p.days.length = 0
    · rw [h0]; simp [codeLen]
    · have h1 := (h (p.days.length - 1) (by omega)).len
      rw [show p.days.length - 1 + 1 = p.days.length by omega] at h1
      exact h1
  · rintro ⟨h, h1⟩ i hi
    exact ⟨(h i hi).up, (h i hi).le, Nat.le_trans (codeLen_mono (by omega)) h1, (h i hi).code⟩
set_option maxRecDepth 20000 in
set_option maxHeartbeats 6400000 in
theorem refCanon {s : ProgS} {p : ProgV} {w : World} {er : Int} (hp : Hid (RdProg w s p)) (ok : Hid (ProgOk p)) (hk0 : Hid (TblAt w)) (he : Hid (canonE p er)) :
    Calls Tryd.prog 11 #[progVal s p] w fun e w' => e = .returned (.int .i64 er) ∧ Chg (fun _ => False) w w' := by
  obtain ⟨n1, n2, n3, n4, A1, A2, A3, A4, c1, c2, c3, c4, HP0⟩ := hp.out.apart
  have HP := Lib.hid HP0
  obtain ⟨i1, hi1⟩ : ∃ x, x = p.horizon := ⟨_, rfl⟩
  obtain ⟨i2, hi2⟩ : ∃ x, x = p.cells := ⟨_, rfl⟩
  obtain ⟨i3, hi3⟩ : ∃ x, x = p.slots := ⟨_, rfl⟩
  obtain ⟨i4, hi4⟩ : ∃ x, x = p.stack := ⟨_, rfl⟩
  have EQ2 : Hid (progVal s p = .agg #[.slice A1 n1 c1, .slice A2 n2 c2, .slice A3 n3 c3, .int .i64 i1, .int .i64 i2, .int .i64 i3, .int .i64 i4, .slice A4 n4 c4]) := by rw [Hid, HP0.eq, hi1, hi2, hi3, hi4]
  rw [EQ2.out]
  have S1 : n1 * 8 ≤ 140737488355328 := by have := HP0.ln; have := ok.out.small.names; omega
  have S2 : n2 * 8 ≤ 140737488355328 := by have := HP0.lc; have := ok.out.small.curs; omega
  have S3 : n3 * 8 ≤ 140737488355328 := by have := HP0.lk; have := ok.out.small.pool; omega
  have S4 : n4 * 32 ≤ 140737488351232 := by have := HP0.ld; have := ok.out.small.days; omega
  have SC : Hid (∀ x ∈ p.days, x.code.length * 24 ≤ 140737488351232) := ok.out.small.code
  have LN := Lib.hid HP0.ln
  have LC := Lib.hid HP0.lc
  have LK := Lib.hid HP0.lk
  have LD := Lib.hid HP0.ld
  have HI := Lib.hid hi1
  clear hi1 hi2 hi3 hi4 HP0
  obtain ⟨w0, hw0⟩ : ∃ x, x = w.alloc (.cells #[.slice A1 n1 c1, .slice A2 n2 c2, .slice A3 n3 c3, .int .i64 i1, .int .i64 i2, .int .i64 i3, .int .i64 i4, .slice A4 n4 c4] 26) := ⟨_, rfl⟩
  obtain ⟨g1, hg1⟩ : ∃ x, x = w.heap.size := ⟨_, rfl⟩
  have C0 : Hid (Chg (fun _ => False) w w0) := by rw [hw0]; exact (Chg.refl _ w).alloc _
  have B1 : Hid (Blk w0 g1 26 [.slice A1 n1 c1, .slice A2 n2 c2, .slice A3 n3 c3, .int .i64 i1, .int .i64 i2, .int .i64 i3, .int .i64 i4, .slice A4 n4 c4]) := by rw [hw0, hg1]; exact Blk.new _ _ _
  have G1 := Lib.hid hg1
  obtain ⟨bl, hbl⟩ := some_b (ListsP p)
  have HBL := Lib.hid hbl
  clear hbl
  cases bl
  · have HZ : Hid ((121 : Int) = er) := (he.out.2 (fun h => absurd (HBL.out.2 h.lists) (by decide))).symm
    go_enter Tryd.func11, Tryd.ntmps11
    go_wp2_with fail
    rw [← hw0, ← hg1]
    clear hw0 hg1
    refine (show Calls Tryd.prog 29 #[.agg #[.slice A1 n1 c1, .slice A2 n2 c2, .slice A3 n3 c3, .int .i64 i1, .int .i64 i2, .int .i64 i3, .int .i64 i4, .slice A4 n4 c4]] _ _ from by rw [← EQ2.out]; exact refLists (Lib.hid (hp.out.chg0 C0.out)) ok HBL).mono ?_
    rintro e wl ⟨rfl, cl⟩
    have CL : Hid (Chg (fun _ => False) w wl) := C0.out.trans cl (fun _ _ h => h)
    clear cl
    go_wp2_with fail
    go_ret
    exact ⟨ret_i HZ.out, CL.out⟩
  · have HLP : Hid (ListsP p) := HBL.out.1 rfl
    obtain ⟨ob1, hob1⟩ : ∃ o, o = Obj.cells (madeCells #[.int .i64 0] n1) 3 := ⟨_, rfl⟩
    obtain ⟨ob2, hob2⟩ : ∃ o, o = Obj.cells (madeCells #[.int .i64 0] n2) 3 := ⟨_, rfl⟩
    obtain ⟨ob3, hob3⟩ : ∃ o, o = Obj.cells (madeCells #[.int .i64 0] n3) 3 := ⟨_, rfl⟩
    have m1 : ∀ W : World, (Instr.makeSlice 23 (.int .i64 (n1 : Int)) (.int .i64 (n1 : Int))).run Tryd.prog W = .ok (.slice (some ⟨W.heap.size, 0, none⟩) n1 n1) (W.alloc ob1) := fun W => by rw [hob1]; exact run_makeI _ _ Tryd.underlying23 infoIntG n1 (by omega) W
    have m2 : ∀ W : World, (Instr.makeSlice 23 (.int .i64 (n2 : Int)) (.int .i64 (n2 : Int))).run Tryd.prog W = .ok (.slice (some ⟨W.heap.size, 0, none⟩) n2 n2) (W.alloc ob2) := fun W => by rw [hob2]; exact run_makeI _ _ Tryd.underlying23 infoIntG n2 (by omega) W
    have m3 : ∀ W : World, (Instr.makeSlice 23 (.int .i64 (n3 : Int)) (.int .i64 (n3 : Int))).run Tryd.prog W = .ok (.slice (some ⟨W.heap.size, 0, none⟩) n3 n3) (W.alloc ob3) := fun W => by rw [hob3]; exact run_makeI _ _ Tryd.underlying23 infoIntG n3 (by omega) W
    have O1 : Hid (∀ (W : World) (b : Nat), b = W.heap.size → OwnV (W.alloc ob1) 3 1 (.slice (some ⟨b, 0, none⟩) n1 n1) n1 (nums .i64 (List.replicate n1 0))) := fun W b hb => by rw [hob1]; exact OwnV.madeI W _ n1 b hb (Nat.le_trans (by omega : n1 ≤ 140737488355328) (by decide))
    have O2 : Hid (∀ (W : World) (b : Nat), b = W.heap.size → OwnV (W.alloc ob2) 3 1 (.slice (some ⟨b, 0, none⟩) n2 n2) n2 (nums .i64 (List.replicate n2 0))) := fun W b hb => by rw [hob2]; exact OwnV.madeI W _ n2 b hb (Nat.le_trans (by omega : n2 ≤ 140737488355328) (by decide))
    have O3 : Hid (∀ (W : World) (b : Nat), b = W.heap.size → OwnV (W.alloc ob3) 3 1 (.slice (some ⟨b, 0, none⟩) n3 n3) n3 (nums .i64 (List.replicate n3 0))) := fun W b hb => by rw [hob3]; exact OwnV.madeI W _ n3 b hb (Nat.le_trans (by omega : n3 ≤ 140737488355328) (by decide))
    clear hob1 hob2 hob3
    go_enter Tryd.func11, Tryd.ntmps11
    go_wp2_with fail
    rw [← hw0, ← hg1]
    clear hw0 hg1
    refine (show Calls Tryd.prog 29 #[.agg #[.slice A1 n1 c1, .slice A2 n2 c2, .slice A3 n3 c3, .int .i64 i1, .int .i64 i2, .int .i64 i3, .int .i64 i4, .slice A4 n4 c4]] _ _ from by rw [← EQ2.out]; exact refLists (Lib.hid (hp.out.chg0 C0.out)) ok HBL).mono ?_
    rintro e wl ⟨rfl, cl⟩
    have CL : Hid (Chg (fun _ => False) w wl) := C0.out.trans cl (fun _ _ h => h)
    have BL : Hid (Blk wl g1 26 [.slice A1 n1 c1, .slice A2 n2 c2, .slice A3 n3 c3, .int .i64 i1, .int .i64 i2, .int .i64 i3, .int .i64 i4, .slice A4 n4 c4]) := B1.out.chg cl (fun h => h)
    clear cl C0 B1
    go_upto_region 4 with fail
    have TA : Hid (∀ W, Chg (fun _ => False) wl W → W.cell? ⟨g1, 0, none⟩ = some (.slice A1 n1 c1) ∧ W.cell? ⟨g1, 1, none⟩ = some (.slice A2 n2 c2) ∧ W.cell? ⟨g1, 2, none⟩ = some (.slice A3 n3 c3)) := fun W cW => ⟨(BL.out.chg cW (fun h => h)).at_ (i := 0) rfl, (BL.out.chg cW (fun h => h)).at_ (i := 1) rfl, (BL.out.chg cW (fun h => h)).at_ (i := 2) rfl⟩
    go_cut [4] from 12 to 29 (fun v wx => ∃ gU, ∃ D : Nat → Prop, v = .pointer (some ⟨gU, 0, none⟩) ∧ Hid (UsesC wx D gU p []) ∧ Hid (∀ y, D y → wl.heap.size ≤ y) ∧ Hid (wl.heap.size ≤ gU) ∧ Hid (Chg (fun _ => False) wl wx))
    case first =>
      go_region_held3 (fun w' => w'.cell? ⟨g1, 0, none⟩ = some (.slice A1 n1 c1) ∧ w'.cell? ⟨g1, 1, none⟩ = some (.slice A2 n2 c2) ∧ w'.cell? ⟨g1, 2, none⟩ = some (.slice A3 n3 c3)) (exact TA.out _ (by repeat (first | exact Chg.refl _ _ | refine Chg.drew ?_ | refine Chg.drewN ?_ _ | refine Chg.alloc ?_ _))) (first | fail)
      all_goals
        go_wp2_with fail
        go_meet
        case rel =>
          refine ⟨wl.heap.size + 1 + 1 + 1, _, rfl, UsesC.start' LN.out LC.out LK.out ?_ ?_ ?_ (by simp) (by omega) (by omega), ?_, ?_, ?_⟩
          · first | exact O1.out _ _ (by simp) | exact (O1.out _ _ (by simp)).alloc1 _ | exact ((O1.out _ _ (by simp)).alloc1 _).alloc1 _
          · first | exact O2.out _ _ (by simp) | exact (O2.out _ _ (by simp)).alloc1 _ | exact ((O2.out _ _ (by simp)).alloc1 _).alloc1 _
          · first | exact O3.out _ _ (by simp) | exact (O3.out _ _ (by simp)).alloc1 _ | exact ((O3.out _ _ (by simp)).alloc1 _).alloc1 _
          · rintro y (h | h | h) <;> omega
          · rw [Hid]; omega
          · exact (show Chg (fun _ => False) wl _ from by repeat (first | exact Chg.refl _ _ | refine Chg.drew ?_ | refine Chg.alloc ?_ _))
    case rest =>
      obtain ⟨gU, D, rfl, UA, GE, GU, CA⟩ := hcut
      have HD : Hid (∀ W, Chg D wl W → Chg (fun _ => False) wl W) := fun W cW => cW.mono (fun y hy h => absurd (GE.out y h) (by omega))
      have RDA : Hid (∀ W, Chg (fun _ => False) wl W → RdDays W A4 p.days s.codes) := fun W cW => (HP.out.chg0 (CL.out.trans cW (fun _ _ h => h))).rd
      have HZ3 : Hid (p.horizon ≤ 3660) := HLP.out.horizon.2
      obtain ⟨wa, hwa⟩ : ∃ x, x = wc := ⟨_, rfl⟩
      subst hwa
      go_upto_block 0 with fail
      go_cut [3, 5, 6, 7, 8] from 30 to 78 (fun _ cv _ _ _ wx => ∃ cs : Nat, cv = .int .i64 cs ∧ Hid (cs = codeLen p p.days.length) ∧ Hid (∀ i (h : i < p.days.length), GoodR p i p.days[i]) ∧ Hid (UsesC wx D gU p (codeOf p p.days.length)) ∧ Hid (Chg (fun _ => False) wl wx))
      case first =>
        go_wp2_with fail
        go_loopw [3, 5, 6, 7, 8] (fun _ cv i _ _ wr => ∃ k cs : Nat, ∃ la : Int, k ≤ n4 ∧ cv = .int .i64 cs ∧ i = .int .i64 k ∧ cs ≤ k * 5864062014805 ∧ (k : Int) - 1 ≤ la ∧ la ≤ 3660 ∧ Hid (cs = codeLen p k) ∧ Hid (la = dayAhead p k) ∧ Hid (∀ j (h : j < p.days.length), j < k → GoodR p j p.days[j]) ∧ Hid (UsesC wr D gU p (codeOf p k)) ∧ Hid (Chg (fun _ => False) wl wr)) (fun _ _ i _ _ _ => n4 - (intOf i).toNat)
        case atStart => exact ⟨0, 0, -1, Nat.zero_le _, rfl, rfl, by omega, by omega, by omega, by rw [Hid]; simp [codeLen], rfl, fun j h h' => absurd h' (by omega), by rw [Hid]; exact UA.out, CA.out⟩
        case round =>
          obtain ⟨k, cs, la, hk, rfl, rfl, hcs, hla1, hla2, HCS, HLA, hg, UK, CK⟩ := hrel
          have y7r := (BL.out.chg CK.out (fun h => h)).at_ (i := 7) rfl
          by_cases hlt : k < n4
          · have h1 : k < p.days.length := by have := LD.out; omega
            obtain ⟨ad, B, nn, cc, e0, f1a, f2a, l1, l2, l3, l4⟩ := (RDA.out _ (Chg.refl _ _)).at_ h1
            subst e0
            have f1 := CK.out.cell (fun h => h) f1a
            have f2 := CK.out.cell (p := ⟨(ad.add (k * 2)).block, (ad.add (k * 2)).off + 1, none⟩) (fun h => h) f2a
            clear f1a f2a
            obtain ⟨x, hx0⟩ : ∃ x, x = p.days[k] := ⟨_, rfl⟩
            have hsz := SC.out _ (List.getElem_mem h1)
            rw [← hx0] at f1 l1 l4 hsz
            have HX := Lib.hid hx0
            have L1 := Lib.hid l1
            have L4 := Lib.hid l4
            obtain ⟨dx, cx⟩ := x
            simp only at f1 l1 l4 hsz
            have hnn : nn ≤ 140737488355328 := by rw [l1]; omega
            have hnn2 : nn ≤ 5864062014805 := by rw [l1]; omega
            have hk2 : k ≤ 3661 := by omega
            have NO : Hid (¬ GoodR p k ⟨dx, cx⟩ → (121 : Int) = er) := fun h => (he.out.2 (fun hc => h (by rw [HX.out]; exact (goodD_iff.1 hc.days).1 k h1))).symm
            have b1 : (0 : Int) ≤ (k : Int) := by omega
            have b2 : (k : Int) < (n4 : Int) := by omega
            have HC1 : Hid (cs + nn = codeLen p (k + 1)) := by rw [Hid, codeLen_succ h1, ← HX.out, HCS.out, L1.out]
            have dw : IntKind.i64.wrap ((cs : Int) + (nn : Int)) = (cs : Int) + (nn : Int) := IntWalk.i64_in _ (by omega)
            obtain ⟨wx, hwx⟩ : ∃ y, y = wr.alloc (.cells #[.int .i64 dx, .slice B nn cc] 42) := ⟨_, rfl⟩
            obtain ⟨g7, hg7⟩ : ∃ y, y = wr.heap.size := ⟨_, rfl⟩
            have CX : Hid (Chg (fun _ => False) wr wx) := by rw [hwx]; exact (Chg.refl _ wr).alloc _
            have B7 : Hid (Blk wx g7 42 [.int .i64 dx, .slice B nn cc]) := by rw [hwx, hg7]; exact Blk.new _ _ _
            have CLX : Hid (Chg (fun _ => False) wl wx) := CK.out.trans CX.out (fun _ _ h => h)
            have hD7 : Hid (¬ D g7) := fun h => by
              have h3 := UK.out.lt _ h
              omega
            have UX : Hid (UsesC wx D gU p (codeOf p k)) := UK.out.chg0 CX.out
            have KD : Hid (∀ W, Chg D wx W → Chg (fun _ => False) wl W) := fun W cW => HD.out W ((CLX.out.mono (T := D) (fun _ _ h => h.elim)).trans cW (fun _ _ h => h))
            have ST : Hid (StayR wx D) := ⟨fun W cW => hk0.out.chg0 (CL.out.trans (KD.out W cW) (fun _ _ h => h))⟩
            have RX : Hid (∀ W, Chg D wx W → RdG W B (insCells cx)) := fun W cW => L4.out.chg0 (KD.out W cW)
            have RPX : Hid (RdProg wx s p) := hp.out.chg0 (CL.out.trans CLX.out (fun _ _ h => h))
            have HLL : Hid ((codeOf p k ++ cx).length ≤ 4611686018427387904) := by
              rw [Hid, List.length_append, codeOf_length, ← HCS.out, ← l1]
              omega
            obtain ⟨bd, hbd⟩ := some_b (DayP p cx)
            have HBD := Lib.hid hbd
            obtain ⟨bw, hbw⟩ := some_b (0 ≤ dx ∧ dx ≤ i1)
            have HBW := Lib.hid hbw
            have BX := BL.out.chg CLX.out (fun h => h)
            have y0 := BX.at_ (i := 0) rfl
            have y1 := BX.at_ (i := 1) rfl
            have y2 := BX.at_ (i := 2) rfl
            have y3 := BX.at_ (i := 3) rfl
            have y4 := BX.at_ (i := 4) rfl
            have y5 := BX.at_ (i := 5) rfl
            have y6 := BX.at_ (i := 6) rfl
            have y7 := BX.at_ (i := 7) rfl
            have v0 := B7.out.at_ (i := 0) rfl
            have v1 := B7.out.at_ (i := 1) rfl
            rw [hwx] at y0 y1 y2 y3 y4 y5 y6 y7
            rw [hwx, hg7] at v0 v1
            clear BX hx0 l1 l4 hbd hbw
            go_wp2_with fail
            rw [← hwx, ← hg7]
            clear hwx hg7 y0 y1 y2 y3 y4 y5 y6 y7 v0 v1
            refine (show Calls Tryd.prog 30 #[.agg #[.slice A1 n1 c1, .slice A2 n2 c2, .slice A3 n3 c3, .int .i64 i1, .int .i64 i2, .int .i64 i3, .int .i64 i4, .slice (some ad) n4 c4], .slice B nn cc, .pointer (some ⟨gU, 0, none⟩)] _ _ from by rw [← EQ2.out]; exact refCode UX ST RPX ok HLL L1 hnn RX HBD).mono ?_
            rintro e w2 ⟨rfl, hu2, c2⟩
            have HU2 := Lib.hid hu2
            have C2 : Hid (Chg (fun _ => False) wl w2) := KD.out w2 c2
            have B72 := Lib.hid (B7.out.chg c2 hD7.out)
            have v0 := B72.out.at_ (i := 0) rfl
            have v1 := B72.out.at_ (i := 1) rfl
            have BL2 := Lib.hid (BL.out.chg C2.out (fun h => h))
            have y3 := BL2.out.at_ (i := 3) rfl
            have y7 := BL2.out.at_ (i := 7) rfl
            clear hu2 c2 f1 f2 y7r
            go_wp2_with fail
            refine (refWithin HBW).mono ?_
            rintro e w3 ⟨rfl, rfl⟩
            cases bd
            · have HE : Hid ((121 : Int) = er) := NO.out (fun h => absurd (HBD.out.2 h.code) (by decide))
              go_wp2_with fail
              go_quiet (fail)
              go_wp2
              go_ret
              exact ⟨ret_i HE.out, (CL.out.trans C2.out (fun _ _ h => h)).drewN _⟩
            cases bw
            · have HE : Hid ((121 : Int) = er) := NO.out (fun h => absurd (HBW.out.2 ⟨by have h3 := h.up; rw [← HLA.out] at h3; simp only at h3; omega, by rw [HI.out]; exact h.le⟩) (by decide))
              go_wp2_with fail
              go_quiet (fail)
              go_wp2
              go_ret
              exact ⟨ret_i HE.out, (CL.out.trans C2.out (fun _ _ h => h)).drewN _⟩
            have hdx : Hid (0 ≤ dx ∧ dx ≤ i1) := HBW.out.1 rfl
            have U2 := Lib.hid (HU2.out rfl)
            have hdx2 := hdx.out.1
            by_cases hk0 : k = 0
            · have d0 : ¬ (0 : Int) < (k : Int) := by omega
              have d0a : decide ((0 : Int) < (k : Int)) = false := decide_eq_false d0
              have d0b : ¬ 0 < k := by omega
              have d0c : decide (0 < k) = false := decide_eq_false d0b
              have HUP : Hid (la < dx) := by
                have h3 := HLA.out
                rw [hk0] at h3
                have h4 : la = -1 := h3
                rw [Hid]; omega
              have HK := Lib.hid hk0
              clear hk0
              go_wp2_with fail
              go_quiet (fail)
              go_wp2
              go_roundw
              case rel =>
                refine ⟨k + 1, cs + nn, dx, by omega, by go_num, by go_num, by omega, by omega, by have := hdx.out.2; have h3 := HI.out; have h4 := HZ3.out; omega, HC1.out, ?_, fun j h hj => ?_, ?_, (C2.out.drewN _)⟩
                · show dx = dayAhead p (k + 1)
                  simp [dayAhead, h1, ← HX.out]
                · by_cases hjk : j < k
                  · exact hg.out j h hjk
                  · obtain rfl : j = k := by omega
                    rw [← HX.out]
                    exact ⟨by rw [← HLA.out]; exact HUP.out, by rw [← HI.out]; exact hdx.out.2, HBD.out.1 rfl⟩
                · rw [Hid, codeOf_succ h1, ← HX.out]
                  exact U2.out.chg0 ((Chg.refl _ _).drewN _)
              case measure => simp [intOf]; omega
            · obtain ⟨q, hq⟩ : ∃ q : Nat, k = q + 1 := ⟨k - 1, by omega⟩
              have h1q : q < p.days.length := by omega
              obtain ⟨ad', B', nn', cc', e0', f1p, _⟩ := (RDA.out _ (Chg.refl _ _)).at_ h1q
              injection e0' with e0'
              subst e0'
              have f1q := C2.out.cell (fun h => h) f1p
              have hpl : p.days[q].day = la := by
                have h3 := HLA.out
                rw [hq] at h3
                rw [h3]
                simp [dayAhead, h1q]
              rw [hpl] at f1q
              clear f1p
              have d0 : (0 : Int) < (k : Int) := by omega
              have d0a : decide ((0 : Int) < (k : Int)) = true := decide_eq_true d0
              have d0b : 0 < k := by omega
              have d0c : decide (0 < k) = true := decide_eq_true d0b
              have b5 : IntKind.i64.wrap ((k : Int) - 1) = (q : Int) := by rw [show (k : Int) - 1 = (q : Int) by omega]; exact IntWalk.i64_in _ (by omega)
              have b6 : (0 : Int) ≤ (q : Int) := by omega
              have b7 : (q : Int) < (n4 : Int) := by omega
              have b8 : (k : Int) - 1 = (q : Int) := by omega
              have HQ := Lib.hid hq
              clear hq hk0 hpl
              by_cases hup : dx ≤ la
              · have HE : Hid ((121 : Int) = er) := NO.out (fun h => by have h3 := h.up; rw [← HLA.out] at h3; simp only at h3; omega)
                have du : decide (dx ≤ la) = true := decide_eq_true hup
                go_wp2_with fail
                go_quiet (fail)
                go_wp2
                go_ret
                exact ⟨ret_i HE.out, (CL.out.trans C2.out (fun _ _ h => h)).drewN _⟩
              have HUP : Hid (la < dx) := by rw [Hid]; omega
              have du : decide (dx ≤ la) = false := decide_eq_false hup
              go_wp2_with fail
              go_quiet (fail)
              go_wp2
              go_roundw
              case rel =>
                refine ⟨k + 1, cs + nn, dx, by omega, by go_num, by go_num, by omega, by omega, by have := hdx.out.2; have h3 := HI.out; have h4 := HZ3.out; omega, HC1.out, ?_, fun j h hj => ?_, ?_, (C2.out.drewN _)⟩
                · show dx = dayAhead p (k + 1)
                  simp [dayAhead, h1, ← HX.out]
                · by_cases hjk : j < k
                  · exact hg.out j h hjk
                  · obtain rfl : j = k := by omega
                    rw [← HX.out]
                    exact ⟨by rw [← HLA.out]; exact HUP.out, by rw [← HI.out]; exact hdx.out.2, HBD.out.1 rfl⟩
                · rw [Hid, codeOf_succ h1, ← HX.out]
                  exact U2.out.chg0 ((Chg.refl _ _).drewN _)
              case measure => simp [intOf]; omega
          · obtain rfl : k = n4 := by omega
            go_wp2_with fail
            go_meet
            case rel => exact ⟨cs, rfl, by rw [Hid, HCS.out, LD.out], fun i h => hg.out i h (by rw [LD.out]; exact h), by rw [Hid, ← LD.out]; exact UK.out, CK.out⟩
      case rest =>
        obtain ⟨cs, rfl, HCS, HG, UB, CB⟩ := hcut
        obtain ⟨wb, hwb⟩ : ∃ x, x = wc := ⟨_, rfl⟩
        subst hwb
        obtain ⟨R1, R2, R3, r1, r2, r3, ub, ow1, ow2, ow3, _⟩ := UB.out.ex
        rw [← LN.out] at ub ow1
        rw [← LC.out] at ub ow2
        rw [← LK.out] at ub ow3
        have OW1 : Hid (RdG wb R1 (nums .i64 (countedBy n1 3 (codeOf p p.days.length)))) := ow1.toG
        have OW2 : Hid (RdG wb R2 (nums .i64 (countedBy n2 28 (codeOf p p.days.length)))) := ow2.toG
        have OW3 : Hid (RdG wb R3 (nums .i64 (countedBy n3 1 (codeOf p p.days.length)))) := ow3.toG
        have s0 := ub.at_ (i := 0) rfl
        have s1 := ub.at_ (i := 1) rfl
        have s2 := ub.at_ (i := 2) rfl
        clear ow1 ow2 ow3 ub
        obtain ⟨d1, hd1⟩ := some_b (∀ x ∈ countedBy n1 3 (codeOf p p.days.length), x ≠ 0)
        obtain ⟨d2, hd2⟩ := some_b (∀ x ∈ countedBy n2 28 (codeOf p p.days.length), x ≠ 0)
        obtain ⟨d3, hd3⟩ := some_b (∀ x ∈ countedBy n3 1 (codeOf p p.days.length), x ≠ 0)
        have D1 := Lib.hid hd1
        have D2 := Lib.hid hd2
        have D3 := Lib.hid hd3
        have E1 : Hid (n1 = (countedBy n1 3 (codeOf p p.days.length)).length) := by rw [Hid, countedBy_length]
        have E2 : Hid (n2 = (countedBy n2 28 (codeOf p p.days.length)).length) := by rw [Hid, countedBy_length]
        have E3 : Hid (n3 = (countedBy n3 1 (codeOf p p.days.length)).length) := by rw [Hid, countedBy_length]
        have CE : Hid (Chg (fun _ => False) w wb) := CL.out.trans CB.out (fun _ _ h => h)
        have N1 : Hid (CanonP p → d1 = true) := fun hc => hd1.2 (by rw [LN.out, counted_named]; exact hc.names)
        have N2 : Hid (CanonP p → d2 = true) := fun hc => hd2.2 (by rw [LC.out, counted_named]; exact hc.curs)
        have N3 : Hid (CanonP p → d3 = true) := fun hc => hd3.2 (by rw [LK.out, counted_named]; exact hc.pool)
        have NO : Hid (¬ CanonP p → (121 : Int) = er) := fun h => (he.out.2 h).symm
        clear hd1 hd2 hd3
        have T1 : n1 ≤ 140737488355328 := by omega
        have T2 : n2 ≤ 140737488355328 := by omega
        have T3 : n3 ≤ 140737488355328 := by omega
        go_wp2_with fail
        refine (refNone E1 T1 OW1 D1).mono ?_
        rintro e w3 ⟨rfl, rfl⟩
        go_wp2_with fail
        refine (refNone E2 T2 OW2 D2).mono ?_
        rintro e w3 ⟨rfl, rfl⟩
        go_wp2_with fail
        refine (refNone E3 T3 OW3 D3).mono ?_
        rintro e w3 ⟨rfl, rfl⟩
        cases d1
        · have HE : Hid ((121 : Int) = er) := NO.out (fun hc => absurd (N1.out hc) (by decide))
          go_wp2_with fail
          go_ret
          exact ⟨ret_i HE.out, CE.out⟩
        cases d2
        · have HE : Hid ((121 : Int) = er) := NO.out (fun hc => absurd (N2.out hc) (by decide))
          go_wp2_with fail
          go_ret
          exact ⟨ret_i HE.out, CE.out⟩
        cases d3
        · have HE : Hid ((121 : Int) = er) := NO.out (fun hc => absurd (N3.out hc) (by decide))
          go_wp2_with fail
          go_ret
          exact ⟨ret_i HE.out, CE.out⟩
        by_cases hbig : (262144 : Int) < (cs : Int)
        · have HE : Hid ((121 : Int) = er) := NO.out (fun hc => by have h3 := (goodD_iff.1 hc.days).2; rw [← HCS.out] at h3; omega)
          go_wp2_with fail
          go_ret
          exact ⟨ret_i HE.out, CE.out⟩
        · have HE : Hid ((0 : Int) = er) := (he.out.1 ⟨HLP.out, goodD_iff.2 ⟨HG.out, by rw [← HCS.out]; omega⟩, by rw [← LN.out, ← counted_named]; exact D1.out.1 rfl, by rw [← LC.out, ← counted_named]; exact D2.out.1 rfl, by rw [← LK.out, ← counted_named]; exact D3.out.1 rfl⟩).symm
          go_wp2_with fail
          go_ret
          exact ⟨ret_i HE.out, CE.out⟩
end Go.Proofs.YtkadamoofiddeaaDoor.Kit
