/- The journal: what holds of it between two calls; Clone, sumBytes, put. -/
import Derived.Test.YtlnomadhgoblkaaProg
import Derived.Test.YtlnomadhgoblkaaPlainJ
import Derived.Test.YtlnomadhgoblkaaRecs
import Derived.Test.YtlnomadhgoblkaaOctL1
import Derived.Deep.RegionHeld3
import Derived.Deep.DeepCutAuto
import Derived.RegionTactic
import Derived.ChangeAlike
import Derived.BigRegion
import Derived.Deep.RegionLaw
import Derived.Deep.QuietTactic
import Derived.BigQuiet
set_option linter.unusedVariables false
set_option linter.unusedSimpArgs false
namespace Go.Proofs.Ytlnomadhgoblkaa.Kit
open Go.RowKit
/-- a journal's head; its bytes; where its records end -/
def jhead : List Int := [80, 65, 89, 74, 82, 78, 76, 49]
def jnlBytes (l : List SecV) : List Int := jhead ++ jnlFrom 0 l
def jends (l : List SecV) : List Int := (List.range l.length).map fun i => ((jnlBytes (l.take (i + 1))).length : Int)
theorem jends_length (l : List SecV) : (jends l).length = l.length := by simp [jends]
theorem jnlBytes_snoc (l : List SecV) (x : SecV) : jnlBytes (l ++ [x]) = jnlBytes l ++ recEnc l.length x := by
  rw [jnlBytes, jnlFrom_snoc, Nat.zero_add, jnlBytes, List.append_assoc]
theorem jends_snoc (l : List SecV) (x : SecV) : jends (l ++ [x]) = jends l ++ [((jnlBytes (l ++ [x])).length : Int)] := by
  unfold jends
  rw [List.length_append, List.length_singleton, List.range_succ, List.map_append, List.map_singleton]
  congr 1
  · apply List.map_congr_left
    intro i hi
    rw [List.mem_range] at hi
    rw [List.take_append_of_le_length (by omega)]
  · rw [List.take_of_length_le (by simp)]
theorem jhead_byt : Byt jhead := by
  intro z hz
  simp [jhead] at hz
  omega
/-- a journal's parts -/
structure JnV (w : World) (vB vR vE : Value) (bs : List Value) (l : List SecV) : Prop where
  bytes : OwnB w vB (jnlBytes l)
  recs : Recs w vR l bs
  ends : Own w 3 .i64 vE (jends l)
  apart : ∀ b ∈ bs, ∀ y, b.ownBlock = some y → vB.ownBlock ≠ some y
/-- a journal in block g, its parts in blocks of D -/
structure Jn (w : World) (D : Nat → Prop) (g : Nat) (l : List SecV) : Prop where
  ex : ∃ vB vR vE bs, Blk w g 88 [vB, vR, vE] ∧ JnV w vB vR vE bs l ∧ (∀ y, vB.ownBlock = some y → D y) ∧ (∀ y, vR.ownBlock = some y → D y) ∧ (∀ y, vE.ownBlock = some y → D y) ∧ ∀ b ∈ bs, ∀ y, b.ownBlock = some y → D y
  size : ∀ x, D x → x < w.heap.size
  out : ¬ D g
theorem JnV.chg {w w1 : World} {S : Nat → Prop} {vB vR vE : Value} {bs : List Value} {l : List SecV} (h : JnV w vB vR vE bs l) (c : Chg S w w1) (h1 : ∀ y, vB.ownBlock = some y → ¬ S y) (h2 : ∀ y, vR.ownBlock = some y → ¬ S y) (h3 : ∀ y, vE.ownBlock = some y → ¬ S y) (h4 : ∀ b ∈ bs, ∀ y, b.ownBlock = some y → ¬ S y) : JnV w1 vB vR vE bs l :=
  ⟨h.bytes.chg c h1, h.recs.chg c h2 h4, h.ends.chg c h3, h.apart⟩
theorem Jn.chg {w w1 : World} {D S : Nat → Prop} {g : Nat} {l : List SecV} (h : Jn w D g l) (c : Chg S w w1) (hS : ∀ x, S x → ¬ D x ∧ x ≠ g) : Jn w1 D g l := by
  obtain ⟨vB, vR, vE, bs, hb, hv, h1, h2, h3, h4⟩ := h.ex
  have hD : ∀ y, D y → ¬ S y := fun y hy hs => (hS y hs).1 hy
  exact ⟨⟨vB, vR, vE, bs, hb.chg c (fun hs => (hS g hs).2 rfl), hv.chg c (fun y hy => hD y (h1 y hy)) (fun y hy => hD y (h2 y hy)) (fun y hy => hD y (h3 y hy)) (fun b hbb y hy => hD y (h4 b hbb y hy)), h1, h2, h3, h4⟩, fun x hx => Nat.lt_of_lt_of_le (h.size x hx) c.size, h.out⟩
theorem Jn.chg0 {w w1 : World} {D : Nat → Prop} {g : Nat} {l : List SecV} (h : Jn w D g l) (c : Chg (fun _ => False) w w1) : Jn w1 D g l := h.chg c (fun _ h => h.elim)
theorem Jn.lt {w : World} {D : Nat → Prop} {g : Nat} {l : List SecV} (h : Jn w D g l) : g < w.heap.size := by
  obtain ⟨_, _, _, _, hb, _⟩ := h.ex
  exact hb.lt
theorem Jn.mono {w : World} {D E : Nat → Prop} {g : Nat} {l : List SecV} (h : Jn w D g l) (hE : ∀ x, D x → E x) (hs : ∀ x, E x → x < w.heap.size) (ho : ¬ E g) : Jn w E g l := by
  obtain ⟨vB, vR, vE, bs, hb, hv, h1, h2, h3, h4⟩ := h.ex
  exact ⟨⟨vB, vR, vE, bs, hb, hv, fun y hy => hE y (h1 y hy), fun y hy => hE y (h2 y hy), fun y hy => hE y (h3 y hy), fun b hbb y hy => hE y (h4 b hbb y hy)⟩, hs, ho⟩
set_option maxRecDepth 20000 in
/-- Clone: nil stays nil; else memory of its own -/
theorem cloneB (A : Option Addr) (n c : Nat) (l : List Int) (w : World) (HN : Hid (n = l.length)) (hl : n ≤ 140737488355328) (hr : Hid (Rd w .u8 A l)) :
    Calls Try.prog 44 #[.slice A n c] w fun e w' => ∃ A' n' c', e = .returned (.slice A' n' c') ∧ Made w w' A' n' c' l := by
  rcases A with _ | ad
  · have h0 : l = [] := by
      rcases l with _ | ⟨x, xs⟩
      · rfl
      · obtain ⟨_, h, _⟩ := hr.out 0 (by simp)
        cases h
    have HL0 := Lib.hid h0
    have hnil : ∀ W : World, (binOp .eql 29 (.slice none n c) (.slice none 0 0)).run Try.prog W = .ok (.bool true) W := fun W => run_eql_nil_slice W _ _ none n c 0 0 Try.underlying29
    clear h0
    go_enter Try.func44, Try.ntmps44
    go_wp2_with fail
    go_ret
    refine ⟨none, 0, 0, rfl, ?_⟩
    rw [HL0.out]
    exact ⟨rfl, Own.nil _ _ _, Chg.refl _ _, fun k h => by simp [Value.ownBlock] at h, Nat.le_refl _⟩
  · have hnil : ∀ W : World, (binOp .eql 29 (.slice (some ad) n c) (.slice none 0 0)).run Try.prog W = .ok (.bool false) W := fun W => run_eql_nil_slice W _ _ (some ad) n c 0 0 Try.underlying29
    have hr1 : Hid (Rd (w.alloc (.cells #[] 5)) .u8 (some ad) l) := hr.out.below (((Chg.refl (fun _ => False) w).alloc _).done)
    go_enter Try.func44, Try.ntmps44
    go_wp2_with (at_builtin; go_must (refine wp_appn rfl _ _ 29 5 .u8 1 rfl Try.underlying29 infoU8 (by decide) (.slice (some ⟨w.heap.size, 0, none⟩) 0 0) [] rfl (Own.lit w 5 .u8 [] (by simp)) (some ad) c l n rfl HN.out hr1.out (by rw [← HN.out]; simp; omega) ?_); intro v' w1 k1 k2 k3 k4; rw [List.nil_append] at k1; obtain ⟨A1, c1, hv, hc1, _⟩ := k1.slice; rw [← HN.out] at hv hc1; subst hv; have K1 := Lib.hid k1; have K3 := Lib.hid k3; have K4 := Lib.hid k4; clear k1 k2 k3 k4)
    go_ret
    refine ⟨A1, n, c1, rfl, HN.out, K1.out, ((Chg.refl _ w).alloc _).fresh K3.out (blk_ge (Nat.le_refl _)), K4.out.ge (blk_ge (Nat.le_refl _)) (by simp), hc1⟩
theorem sumBytes (x : Int) (w : World) (h0 : 0 ≤ x) (h1 : x < 4294967296) :
    Calls Try.prog 42 #[.int .u32 x] w fun e w' => ∃ A c, e = .returned (.slice A 4 c) ∧ Made w w' A 4 c (sumB x) := by
  go_enter Try.func42, Try.ntmps42
  go_wp2_with fail
  go_ret
  exact ⟨_, _, rfl, rfl, Own.lit w _ .u8 (sumB x) (by rw [sumB_length]; decide), (Chg.refl _ w).alloc _, fun k h => by simp [Value.ownBlock] at h; omega, Nat.le_refl _⟩
theorem infoInt : (Try.prog.info? 3).map (fun i => (i.zero, i.size, i.bytes)) = some (some (.int .i64 0), 1, 8) := by kernel_rfl
/-- a box of one number -/
theorem rd_box1 {W W' : World} {k : IntKind} (y : Int) (e : TypeId) (hW : ∀ p, W'.cell? p = (W.alloc (.cells #[.int k y] e)).cell? p) : Rd W' k (some ⟨W.heap.size, 0, none⟩) [y] := fun i hi => by
  have h0 : i = 0 := by simp at hi; omega
  subst h0
  refine ⟨_, rfl, ?_⟩
  rw [hW]
  have := (Blk.new W #[.int k y] e).cell 0
  rw [show (⟨W.heap.size, 0, none⟩ : Addr).add 0 = ⟨W.heap.size, 0, none⟩ from rfl, this]
  rfl
set_option maxRecDepth 20000 in
set_option maxHeartbeats 3200000 in
/-- put: a record behind the others, given its bytes -/
theorem jput (g : Nat) (vB vR vE b : Value) (bs : List Value) (l : List SecV) (x : SecV) (A : Option Addr) (n c : Nat) (w : World) (hb : Hid (Blk w g 88 [vB, vR, vE])) (hv : Hid (JnV w vB vR vE bs l)) (hbo : Hid (OwnB w b x.body)) (hba : Hid (∀ y, b.ownBlock = some y → vB.ownBlock ≠ some y))
    (HN : Hid (n = (recEnc l.length x).length)) (hr : Hid (Rd w .u8 A (recEnc l.length x))) (hsz : Hid ((jnlBytes l).length + n ≤ 1073741824)) (hll : l.length ≤ 1073741824) :
    Calls Try.prog 43 #[.pointer (some ⟨g, 0, none⟩), .agg #[.int .i64 x.id, b], .slice A n c] w fun e w' => e = .returned (.tuple #[]) ∧ ∃ vB' vR' vE', Blk w' g 88 [vB', vR', vE'] ∧ JnV w' vB' vR' vE' (bs ++ [b]) (l ++ [x]) ∧
      Chg (fun y => y = g ∨ vB.ownBlock = some y ∨ vR.ownBlock = some y ∨ vE.ownBlock = some y) w w' ∧ Fresh w vB vB' ∧ Fresh w vR vR' ∧ Fresh w vE vE' := by
  obtain ⟨AB, cB, hB, hcB, _⟩ := hv.out.bytes.slice
  obtain ⟨AR, cR, hR, hcR, _⟩ := hv.out.recs.row.slice
  obtain ⟨AE, cE, hE, hcE, _⟩ := hv.out.ends.slice
  obtain ⟨nb, hnb⟩ : ∃ nb, nb = (jnlBytes l).length := ⟨_, rfl⟩
  obtain ⟨k, hk⟩ : ∃ k, k = l.length := ⟨_, rfl⟩
  have hEl : (jends l).length = k := by rw [jends_length, hk]
  rw [← hnb] at hB hcB
  rw [← hk] at hR hcR
  rw [hEl] at hE hcE
  subst hB hR hE
  have HNB := Lib.hid hnb
  have HK := Lib.hid hk
  have hsz' : nb + n ≤ 1073741824 := by rw [hnb]; exact hsz.out
  have hk2 : k ≤ 1073741824 := by omega
  clear hnb hk hEl hcB hcR hcE
  obtain ⟨wa, hwa⟩ : ∃ wa, wa = w.alloc (.cells #[.int .i64 x.id, b] 31) := ⟨_, rfl⟩
  obtain ⟨hr1, hhr⟩ : ∃ h1, h1 = w.heap.size := ⟨_, rfl⟩
  have CA : Hid (Chg (fun _ => False) w wa) := by rw [hwa]; exact (Chg.refl _ w).alloc _
  have BX : Hid (Blk wa hr1 31 [.int .i64 x.id, b]) := by rw [hwa, hhr]; exact Blk.new _ _ _
  have B1 := Lib.hid (hb.out.chg CA.out id)
  have V1 := Lib.hid (hv.out.chg CA.out (fun _ _ h => h) (fun _ _ h => h) (fun _ _ h => h) (fun _ _ _ _ h => h))
  have O1 := Lib.hid (hbo.out.chg CA.out (fun _ _ h => h))
  have R1 : Hid (Rd wa .u8 A (recEnc l.length x)) := hr.out.below CA.out.done
  have HHR := Lib.hid hhr
  have hRlt : Hid (∀ y, Value.ownBlock (.slice AR k cR) = some y → y < hr1) := fun y hy => by rw [hhr]; exact hv.out.recs.row.lt y hy
  have HWA : Hid (wa.heap.size = w.heap.size + 1) := by rw [hwa]; simp [Hid]
  have c0 : (w.alloc (.cells #[.int .i64 x.id, b] 31)).cell? ⟨g, 0, none⟩ = some (.slice AB nb cB) := by rw [← hwa]; exact B1.out.at_ (i := 0) rfl
  have HWA2 := Lib.hid hwa
  obtain ⟨rB, hrB⟩ : ∃ rB, rB = recEnc l.length x := ⟨_, rfl⟩
  rw [← hrB] at HN R1
  have HRB := Lib.hid hrB
  have JB := Lib.hid V1.out.bytes
  obtain ⟨jB, hjB⟩ : ∃ jB, jB = jnlBytes l := ⟨_, rfl⟩
  rw [← hjB] at JB HNB
  have HJB := Lib.hid hjB
  clear hrB hjB hsz hwa hhr
  go_enter Try.func43, Try.ntmps43
  go_wp2_with (at_builtin; (try rw [← HWA2.out]); go_must (refine wp_appn (W := wa) rfl _ _ 29 5 .u8 1 rfl Try.underlying29 infoU8 (by decide) (.slice AB nb cB) jB rfl JB.out A c rB n rfl HN.out R1.out (by rw [← HNB.out, ← HN.out]; omega) ?_); intro v2 w2 k1 k2 k3 k4; obtain ⟨A2, c2, hv2, hc2, _⟩ := k1.slice; obtain ⟨j2, hj2⟩ : ∃ j2, j2 = jB ++ rB := ⟨_, rfl⟩; rw [← hj2] at k1 hv2 hc2; obtain ⟨n2, hn2⟩ : ∃ n2, n2 = j2.length := ⟨_, rfl⟩; rw [← hn2] at hv2 hc2; subst hv2; have HJ2 := Lib.hid hj2; have HN2 := Lib.hid hn2; clear hj2 hn2; have K1 := Lib.hid k1; have K3 := Lib.hid k3; have K4 := Lib.hid k4; clear k1 k2 k3 k4; have hgB : Hid (∀ y, Value.ownBlock (.slice AB nb cB) = some y → y ≠ g) := (fun y hy e => OwnV.type_ne JB.out B1.out (by decide) (by rw [hy, e])); have B2 := Lib.hid (B1.out.chg K3.out (fun e => hgB.out g e rfl)); have c1 := B2.out.at_ (i := 0) rfl; have f1 := B2.out.frozen (i := 0) (by simp); go_frame)
  obtain ⟨w3, hw3⟩ : ∃ w3, w3 = w2.setCell ⟨g, 0, none⟩ (.slice A2 n2 c2) := ⟨_, rfl⟩
  obtain ⟨Ab, cb, hbv, _⟩ := hbo.out.slice
  obtain ⟨mb, hmb⟩ : ∃ mb, mb = x.body.length := ⟨_, rfl⟩
  rw [← hmb] at hbv
  subst hbv
  have HMB := Lib.hid hmb
  have hA2 : Hid (∀ y, Value.ownBlock (.slice A2 n2 c2) = some y → y ≠ g) := fun y hy e => OwnV.type_ne K1.out B2.out (by decide) (by rw [hy, e])
  have hgR : Hid (∀ y, Value.ownBlock (.slice AR k cR) = some y → y ≠ g) := fun y hy e => OwnV.type_ne V1.out.recs.row B1.out (by decide) (by rw [hy, e])
  have hgE : Hid (∀ y, Value.ownBlock (.slice AE k cE) = some y → y ≠ g) := fun y hy e => OwnV.type_ne V1.out.ends B1.out (by decide) (by rw [hy, e])
  have B3 : Hid (Blk w3 g 88 [.slice A2 n2 c2, .slice AR k cR, .slice AE k cE]) := by rw [hw3]; exact B2.out.set 0 _
  have C3 : Hid (Chg (fun y => y = g ∨ Value.ownBlock (.slice AB nb cB) = some y) wa w3) := by rw [hw3]; exact (K3.out.mono (fun _ _ h => .inr h)).setCell (p := ⟨g, 0, none⟩) (fun _ => .inl rfl) _
  have O3 : Hid (OwnB w3 (.slice A2 n2 c2) j2) := by rw [hw3]; exact K1.out.chg ((Chg.refl (· = g) w2).setg 0 _) (fun y hy e => hA2.out y hy e)
  have X3 : Hid (Blk w3 hr1 31 [.int .i64 x.id, .slice Ab mb cb]) := BX.out.chg C3.out (fun h => by
    rcases h with h | h
    · exact BX.out.type_ne B1.out (by decide) h
    · exact OwnV.type_ne JB.out BX.out (by decide) h)
  have R3 : Hid (Recs w3 (.slice AR k cR) l bs) := V1.out.recs.chg C3.out (fun y hy h => by
    rcases h with h | h
    · exact hgR.out y hy h
    · obtain ⟨cur, hcu⟩ := OwnV.typed JB.out y h
      exact V1.out.recs.row.type_ne hcu (by decide) hy) (fun b hb y hy h => by
    rcases h with h | h
    · obtain ⟨i, hi, rfl⟩ := List.getElem_of_mem hb
      exact OwnV.type_ne (V1.out.recs.own i (by rw [← V1.out.recs.lenB]; exact hi) hi) B1.out (by decide) (by rw [hy, h])
    · exact V1.out.apart b hb y hy h)
  have E3 : Hid (Own w3 3 .i64 (.slice AE k cE) (jends l)) := V1.out.ends.chg C3.out (fun y hy h => by
    rcases h with h | h
    · exact hgE.out y hy h
    · obtain ⟨cur, hcu⟩ := OwnV.typed JB.out y h
      exact OwnV.type_ne V1.out.ends hcu (by decide) hy)
  have OB3 : Hid (OwnB w3 (.slice Ab mb cb) x.body) := O1.out.chg C3.out (fun y hy h => by
    rcases h with h | h
    · exact OwnV.type_ne O1.out B1.out (by decide) (by rw [hy, h])
    · exact hba.out y hy h)
  have rowT := R3.out.row
  rw [← HK.out] at rowT
  have HRT := Lib.hid rowT
  have d1 := B3.out.at_ (i := 1) rfl
  have d2 := X3.out.at_ (i := 0) rfl
  have d3 := X3.out.at_ (i := 1) rfl
  rw [← hw3, ← HHR.out]
  clear hw3 hmb c0 c1 f1 rowT
  have d1a : (w3.alloc (.cells #[.int .i64 x.id, .slice Ab mb cb] 31)).drew.cell? ⟨g, 1, none⟩ = some (.slice AR k cR) := (((Chg.refl (fun _ => False) w3).alloc (.cells #[.int .i64 x.id, .slice Ab mb cb] 31)).drew).cell (fun h => h) d1
  go_upto_region 2 with fail
  go_cut [] from 15 (fun wx => ∃ A6 c6, Hid (Blk wx g 88 [.slice A2 n2 c2, .slice A6 (k + 1) c6, .slice AE k cE]) ∧ Hid (OwnV wx 31 2 (.slice A6 (k + 1) c6) (k + 1) (tCells l bs ++ [.int .i64 x.id, .slice Ab mb cb])) ∧ Hid (Chg (fun y => y = g ∨ Value.ownBlock (.slice AR k cR) = some y) w3 wx) ∧ Hid (Fresh w3 (.slice AR k cR) (.slice A6 (k + 1) c6)))
  case first =>
    go_region_law (first | ((refine st_app2 rfl _ _ 49 31 (.agg #[.int .i64 0, .slice none 0 0]) 32 rfl Try.underlying49 infoRec rfl (by decide) (.slice AR k cR) k (tCells l bs) (.int .i64 x.id) (.slice Ab mb cb) rfl rfl rfl (HRT.out.chg (S := fun _ => False) (by repeat (first | exact Chg.refl _ _ | refine Chg.drew ?_ | refine Chg.drewN ?_ _ | refine Chg.alloc ?_ _)) (fun _ _ h => h)) w3.heap.size rfl (box_news2 _ _ _ (fun _ => rfl)) (by omega) ?_; intro v6 w6 k1 k2 k3; obtain ⟨A6, c6, rfl, _, _⟩ := k1.slice; have N1 := Lib.hid k1; have N2 : Hid (Chg (fun y => Value.ownBlock (.slice AR k cR) = some y) w3 w6) := (show Chg _ w3 _ from by repeat (first | exact Chg.refl _ _ | refine Chg.drew ?_ | refine Chg.drewN ?_ _ | refine Chg.alloc ?_ _)).trans k2 (fun _ _ h => h); have N3 : Hid (Fresh w3 (.slice AR k cR) (.slice A6 (k + 1) c6)) := k3.imp id (fun h y hy => Nat.le_trans (by simp) (h y hy)); clear k1 k2 k3; have B6 : Hid (Blk w6 g 88 [.slice A2 n2 c2, .slice AR k cR, .slice AE k cE]) := B3.out.chg N2.out (fun e => hgR.out g e rfl); have e1 := B6.out.at_ (i := 1) rfl; have f6 := B6.out.frozen (i := 1) (by simp))))
    all_goals
      go_wp2_with fail
      go_meet
      case rel => exact ⟨A6, c6, B6.out.set 1 _, N1.out.chg ((Chg.refl (· = g) w6).setg 1 _) (fun y hy e => OwnV.type_ne N1.out B6.out (by decide) (by rw [hy, e])), (N2.out.mono (fun _ _ h => .inr h)).setCell (p := ⟨g, 1, none⟩) (fun _ => .inl rfl) _, N3.out⟩
  case rest =>
    obtain ⟨A6, c6, B6, N6, C6, F6⟩ := hcut
    obtain ⟨w7, hw7⟩ : ∃ w7, w7 = wc := ⟨_, rfl⟩
    subst hw7
    have hRr : Hid (∀ y, Value.ownBlock (.slice AR k cR) = some y → ¬ ∃ cur, Blk w3 y 5 cur) := fun y hy ht => by
      obtain ⟨cur, hcu⟩ := ht
      exact HRT.out.type_ne hcu (by decide) hy
    have O7 : Hid (OwnB w7 (.slice A2 n2 c2) j2) := O3.out.chg C6.out (fun y hy h => by
      rcases h with h | h
      · exact hA2.out y hy h
      · exact hRr.out y h (OwnV.typed O3.out y hy))
    have OB7 : Hid (OwnB w7 (.slice Ab mb cb) x.body) := OB3.out.chg C6.out (fun y hy h => by
      rcases h with h | h
      · exact OwnV.type_ne OB3.out B3.out (by decide) (by rw [hy, h])
      · exact hRr.out y h (OwnV.typed OB3.out y hy))
    have E7 : Hid (Own w7 3 .i64 (.slice AE k cE) (jends l)) := E3.out.chg C6.out (fun y hy h => by
      rcases h with h | h
      · exact hgE.out y hy h
      · obtain ⟨cur, hcu⟩ := OwnV.typed E3.out y hy
        exact HRT.out.type_ne hcu (by decide) h)
    have R7 : Hid (Recs w7 (.slice A6 (k + 1) c6) (l ++ [x]) (bs ++ [.slice Ab mb cb])) := R3.out.snoc HK.out.symm C6.out (fun y hy ht => by
      rcases hy with hy | hy
      · obtain ⟨cur, hcu⟩ := ht
        rw [hy] at hcu
        exact hcu.type_ne B3.out (by decide) rfl
      · exact hRr.out y hy ht) N6.out OB7.out
    have e0 := B6.out.at_ (i := 0) rfl
    have e2 := B6.out.at_ (i := 2) rfl
    have e0a : (w7.alloc (.cells #[.int .i64 (n2 : Int)] 3)).drew.cell? ⟨g, 0, none⟩ = some (.slice A2 n2 c2) := (((Chg.refl (fun _ => False) w7).alloc (.cells #[.int .i64 (n2 : Int)] 3)).drew).cell (fun h => h) e0
    have e2a : (w7.alloc (.cells #[.int .i64 (n2 : Int)] 3)).drew.cell? ⟨g, 2, none⟩ = some (.slice AE k cE) := (((Chg.refl (fun _ => False) w7).alloc (.cells #[.int .i64 (n2 : Int)] 3)).drew).cell (fun h => h) e2
    have hEl : Hid ((jends l).length = k) := by rw [Hid, jends_length, HK.out]
    obtain ⟨jE, hjE⟩ : ∃ jE, jE = jends l := ⟨_, rfl⟩
    rw [← hjE] at E7 hEl
    have HJE := Lib.hid hjE
    clear hjE d1 d2 d3 d1a
    have hba2 : Hid (∀ y, Value.ownBlock (.slice Ab mb cb) = some y → Value.ownBlock (.slice A2 n2 c2) ≠ some y) := fun y hy e => by
      rcases K4.out with h | h
      · exact hba.out y hy (h ▸ e)
      · have h1 := h y e
        have h2 := O1.out.lt y hy
        omega
    have hap2 : Hid (∀ b ∈ bs, ∀ y, b.ownBlock = some y → Value.ownBlock (.slice A2 n2 c2) ≠ some y) := fun b hb y hy e => by
      rcases K4.out with h | h
      · exact V1.out.apart b hb y hy (h ▸ e)
      · have h1 := h y e
        obtain ⟨i, hi, rfl⟩ := List.getElem_of_mem hb
        have h2 := (V1.out.recs.own i (by rw [← V1.out.recs.lenB]; exact hi) hi).lt y hy
        omega
    have hJX : Hid (j2 = jnlBytes (l ++ [x])) := by rw [Hid, HJ2.out, HJB.out, HRB.out, jnlBytes_snoc]
    have hJEX : Hid (jE ++ [(n2 : Int)] = jends (l ++ [x])) := by rw [Hid, jends_snoc, HJE.out, HN2.out, hJX.out]
    go_upto_region 3 with fail
    go_region_law (first | ((refine st_appn rfl _ _ 23 3 .i64 8 rfl Try.underlying23 infoInt (by decide) (.slice AE k cE) jE rfl (E7.out.chg (S := fun _ => False) (by repeat (first | exact Chg.refl _ _ | refine Chg.drew ?_ | refine Chg.drewN ?_ _ | refine Chg.alloc ?_ _)) (fun _ _ h => h)) (some ⟨w7.heap.size, 0, none⟩) 1 [(n2 : Int)] 1 rfl rfl (rd_box1 (n2 : Int) 3 (fun _ => rfl)) (by rw [hEl.out]; simp; omega) ?_; intro v8 w8 k1 k2 k3 k4; obtain ⟨A8, c8, hv8, _, _⟩ := k1.slice; obtain ⟨jF, hjF⟩ : ∃ jF, jF = jE ++ [(n2 : Int)] := ⟨_, rfl⟩; rw [← hjF] at k1 hv8; obtain ⟨n8, hn8⟩ : ∃ n8, n8 = jF.length := ⟨_, rfl⟩; rw [← hn8] at hv8; subst hv8; have HJF := Lib.hid hjF; have HN8 := Lib.hid hn8; clear hjF hn8; have M1 := Lib.hid k1; have M2 : Hid (Chg (fun y => Value.ownBlock (.slice AE k cE) = some y) w7 w8) := (show Chg _ w7 _ from by repeat (first | exact Chg.refl _ _ | refine Chg.drew ?_ | refine Chg.drewN ?_ _ | refine Chg.alloc ?_ _)).trans k3 (fun _ _ h => h); have M4 : Hid (Fresh w7 (.slice AE k cE) (.slice A8 n8 c8)) := k4.imp id (fun h y hy => Nat.le_trans (by simp) (h y hy)); clear k1 k2 k3 k4; have B8 : Hid (Blk w8 g 88 [.slice A2 n2 c2, .slice A6 (k + 1) c6, .slice AE k cE]) := B6.out.chg M2.out (fun e => hgE.out g e rfl); have g2 := B8.out.at_ (i := 2) rfl; have g3 := B8.out.frozen (i := 2) (by simp))))
    all_goals
      go_wp2_with fail
      go_end0
      have hE8 : ∀ y, Value.ownBlock (.slice AE k cE) = some y → ¬ ∃ cur, Blk w7 y 5 cur := fun y hy ht => by
        obtain ⟨cur, hcu⟩ := ht
        exact OwnV.type_ne E7.out hcu (by decide) hy
      have CC : Chg (fun y => y = g ∨ Value.ownBlock (.slice AE k cE) = some y) w7 (w8.setCell ⟨g, 2, none⟩ (.slice A8 n8 c8)) := (M2.out.mono (fun _ _ h => .inr h)).setCell (p := ⟨g, 2, none⟩) (fun _ => .inl rfl) _
      have nb8 : ∀ {v : Value} {q : List Int}, OwnB w7 v q → ∀ y, v.ownBlock = some y → ¬ (y = g ∨ Value.ownBlock (.slice AE k cE) = some y) := fun ho y hy h => by
        rcases h with h | h
        · exact OwnV.type_ne ho B6.out (by decide) (by rw [hy, h])
        · exact hE8 y h (OwnV.typed ho y hy)
      refine ⟨rfl, .slice A2 n2 c2, .slice A6 (k + 1) c6, .slice A8 n8 c8, B8.out.set 2 _, ⟨?_, ?_, ?_, ?_⟩, ?_, ?_, ?_, ?_⟩
      · rw [← hJX.out]
        exact O7.out.chg CC (nb8 O7.out)
      · refine R7.out.chg CC (fun y hy h => ?_) (fun b hb y hy => ?_)
        · rcases h with h | h
          · exact OwnV.type_ne N6.out B6.out (by decide) (by rw [hy, h])
          · obtain ⟨cur, hcu⟩ := OwnV.typed E7.out y h
            exact N6.out.type_ne hcu (by decide) hy
        · obtain ⟨i, hi, rfl⟩ := List.getElem_of_mem hb
          exact nb8 (R7.out.own i (by rw [← R7.out.lenB]; exact hi) hi) y hy
      · rw [← hJEX.out, ← HJF.out]
        exact M1.out.chg ((Chg.refl (· = g) w8).setg 2 _) (fun y hy e => OwnV.type_ne M1.out B8.out (by decide) (by rw [hy, e]))
      · intro b hb
        rcases List.mem_append.1 hb with hb | hb
        · exact hap2.out b hb
        · rw [List.mem_singleton] at hb
          subst hb
          exact hba2.out
      · refine (CA.out.mono (fun _ _ h => h.elim)).trans (((C3.out.mono (fun y _ h => h.elim .inl (fun h => .inr (.inl h)))).trans C6.out (fun y hy h => h.elim .inl (fun h => .inr (.inr (.inl h))))).trans CC (fun y hy h => h.elim .inl (fun h => .inr (.inr (.inr h))))) (fun _ _ h => h)
      · exact K4.out.imp id (fun h y hy => Nat.le_trans CA.out.size (h y hy))
      · exact F6.out.imp id (fun h y hy => Nat.le_trans (Nat.le_trans CA.out.size C3.out.size) (h y hy))
      · exact M4.out.imp id (fun h y hy => Nat.le_trans (Nat.le_trans (Nat.le_trans CA.out.size C3.out.size) C6.out.size) (h y hy))
end Go.Proofs.Ytlnomadhgoblkaa.Kit
