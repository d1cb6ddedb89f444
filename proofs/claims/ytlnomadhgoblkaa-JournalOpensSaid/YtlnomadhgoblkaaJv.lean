/- The journal: record's end where there is one. -/
import Derived.Test.YtlnomadhgoblkaaProg
import Derived.Test.YtlnomadhgoblkaaJt
import Derived.Test.YtlnomadhgoblkaaJq
import Derived.Lib.Bytes
set_option linter.unusedVariables false
set_option linter.unusedSimpArgs false
namespace Go.Proofs.Ytlnomadhgoblkaa.Kit
open Go.RowKit
/-- what record leaves -/
def RecRes (D : Nat → Prop) (g gj : Nat) (A : Option Addr) (n c : Nat) (l : List Int) (p : Nat) (ls : List SecV) (w : World) (R : Option (SecV × Nat)) (e : Ending) (w' : World) : Prop :=
  match R with
  | none => e = .returned (.bool false) ∧ Opn w' g gj A n c l p ∧ Jn w' D gj ls ∧ Chg (· = g) w w'
  | some (x, sz) => e = .returned (.bool true) ∧ Opn w' g gj A n c l (p + sz) ∧ ∃ D', Jn w' D' gj (ls ++ [x]) ∧ (∀ y, D' y → D y ∨ w.heap.size ≤ y) ∧ Chg (fun y => y = g ∨ y = gj ∨ D y) w w'
theorem RecF.setok {w : World} {h g : Nat} {ok : Bool} {fr : Nat} {v0 v1 : Value} (x : RecF w h g ok fr v0 v1) (b : Bool) : RecF (w.setCell ⟨h + 1, 0, none⟩ (.bool b)) h g b fr v0 v1 :=
  have c := (Chg.refl (· = h + 1) w).setg 0 (.bool b)
  ⟨x.o.chg c (by omega), x.ok.set 0 _, x.fr.chg c (by omega), x.r.chg c (by omega)⟩
theorem RecF.setr {w : World} {h g : Nat} {ok : Bool} {fr : Nat} {v0 v1 : Value} (x : RecF w h g ok fr v0 v1) (u0 u1 : Value) : RecF ((w.setCell ⟨h + 3, 0, none⟩ u0).setCell ⟨h + 3, 1, none⟩ u1) h g ok fr u0 u1 :=
  have c := ((Chg.refl (· = h + 3) w).setg 0 u0).setg 1 u1
  ⟨x.o.chg c (by omega), x.ok.chg c (by omega), x.fr.chg c (by omega), (x.r.set 0 _).set 1 _⟩
/-- record's end where there is one -/
theorem recWin {g gj h : Nat} {D : Nat → Prop} {A : Option Addr} {n c : Nat} {l : List Int} {p q sz : Nat} {ls : List SecV} {R : Option (SecV × Nat)} {x : SecV} {b v0 v1 : Value} {tmps : Array Value} {w W : World} (ht : tmps[2]? = some (.pointer (some ⟨h + 1, 0, none⟩))) (hR : recRd (l.drop p) ls.length = R) (hn : recRd (l.drop p) ls.length = some (x, sz)) (hby : Byt l) (hx : RecF W h g false p v0 v1) (ho : Opn W g gj A n c l q) (hq : p + sz = q) (hj : Jn W D gj ls) (hbo : OwnB W b x.body) (hbn : ∀ y, b.ownBlock = some y → h ≤ y ∧ y ≠ h + 1 ∧ y ≠ h + 3)
    (hlen : (jnlBytes ls).length = p) (hc : Chg (· = g) w W) (hh : h = w.heap.size) (hg : g < h) (hgj : gj < h) (hD : ∀ y, D y → y < h) (hne : g ≠ gj) (hgD : ¬ D g) (hA : ∀ y, Value.ownBlock (.slice A n c) = some y → y < h) (hAD : ∀ y, Value.ownBlock (.slice A n c) = some y → ¬ (y = gj ∨ D y)) (hs : W.heap.size ≥ h) :
    Leaves Try.prog Try.f48 tmps (RecRes D g gj A n c l p ls w R) [{ target := .fn (.func 63) #[.pointer (some ⟨h + 1, 0, none⟩), .pointer (some ⟨h + 2, 0, none⟩), .pointer (some ⟨h, 0, none⟩), .pointer (some ⟨h + 3, 0, none⟩)], args := #[] }] .returning (((W.setCell ⟨h + 3, 0, none⟩ (.int .i64 x.id)).setCell ⟨h + 3, 1, none⟩ b).setCell ⟨h + 1, 0, none⟩ (.bool true)) := by
  obtain ⟨W1, hW1⟩ : ∃ W1, W1 = ((W.setCell ⟨h + 3, 0, none⟩ (.int .i64 x.id)).setCell ⟨h + 3, 1, none⟩ b).setCell ⟨h + 1, 0, none⟩ (.bool true) := ⟨_, rfl⟩
  have K : Chg (fun y => y = h + 1 ∨ y = h + 3) W W1 := by
    rw [hW1]
    exact (((Chg.refl (fun y => y = h + 1 ∨ y = h + 3) W).setCell (p := ⟨h + 3, 0, none⟩) (fun _ => .inr rfl) _).setCell (p := ⟨h + 3, 1, none⟩) (fun _ => .inr rfl) _).setCell (p := ⟨h + 1, 0, none⟩) (fun _ => .inl rfl) _
  have X : RecF W1 h g true p (.int .i64 x.id) b := by rw [hW1]; exact (hx.setr _ _).setok true
  have O : Opn W1 g gj A n c l q := ho.chg K (by omega) (fun y hy e => by have := hA y hy; omega)
  have J : Jn W1 D gj ls := hj.chg K (fun y e => ⟨fun hd => by have := hD y hd; omega, by omega⟩)
  have B : OwnB W1 b x.body := hbo.chg K (fun y hy e => by have := hbn y hy; omega)
  have C : Chg (· = g) w W1 := hc.trans K (fun y hy e => by omega)
  rw [← hW1]
  obtain ⟨g1, g2, g3, g4⟩ := recRd_form (byt_drop hby p) hn
  have hz : 0 < sz := by
    have := recHd_length ls.length x
    rw [g2, recEnc, List.length_append]
    have := sumB_length (vi (crc (recHd ls.length x)))
    omega
  have hlq : q ≤ 268435456 := Nat.le_trans ho.le ho.bound
  have hjl := jnlBytes_len ls
  refine leaves_cons (f := 63) (args := #[.pointer (some ⟨h + 1, 0, none⟩), .pointer (some ⟨h + 2, 0, none⟩), .pointer (some ⟨h, 0, none⟩), .pointer (some ⟨h + 3, 0, none⟩)]) (by simp) (by simp [go_sem]) ?_
  refine (recD_yes .returning (Lib.hid X) (Lib.hid O) (Lib.hid hq) hz (Lib.hid J) (Lib.hid B) (Lib.hid (fun y hy hd => by have := hD y hd; have := hbn y hy; omega)) (Lib.hid g3) (Lib.hid (by rw [hlen]; omega)) (by omega) hg hgj (Lib.hid hD) hne (Lib.hid hgD) (Lib.hid hAD)).mono ?_
  rintro e u' w' ⟨rfl, rfl, O', J', C', X'⟩
  have hcell := X'.ok.at_ (i := 0) rfl
  rw [hn] at hR
  subst hR hq
  have hsz := C.size
  have hfin : RecRes D g gj A n c l p ls w (some (x, sz)) (.returned (.bool true)) w' := ⟨rfl, O', _, J', fun y hy => by
    rcases hy with hy | hy | hy
    · exact .inl hy
    · have := hbn y hy
      exact .inr (by omega)
    · exact .inr (by omega), (C.mono (fun _ _ e => .inl e)).trans C' (fun _ _ e => .inr e)⟩
  simp [Leaves, settle, results, Try.results48, ht, hcell, go_sem]
  exact hfin
/-- a whole record, but for its sum -/
theorem rec_tail {l hd T : List Int} {n k p p2 p4 p5 p6 sz1 sz2 m : Nat} {z7 kd : Int} {ls : List SecV} (hd0 : (l.drop p)[0]? = some 167) (hd1 : urd ((l.drop p).drop 1) (ls.length : Int) = ((k : Int), sz1, 0)) (hk : k = ls.length) (hkd : (l.drop p)[1 + sz1]? = some kd) (hk0 : ¬ kd = 0) (hd2 : urd ((l.drop p).drop (2 + sz1)) 4194304 = ((m : Int), sz2, 0))
    (h2 : p + 1 + sz1 = p2) (h4 : p2 + 1 + sz2 = p4) (h5 : p4 + m = p5) (h6 : p5 + 4 = p6) (hn : n = l.length) (hf : ¬ n < p6) (hhd : hd = (l.drop p).take (p5 - p)) (hz : vi (crc hd) = z7) (hT : T = (l.drop p5).take 4) :
    (T ≠ sumB z7 → recRd (l.drop p) ls.length = none) ∧ (T = sumB z7 → recRd (l.drop p) ls.length = some (⟨kd, (l.drop p4).take m⟩, p6 - p)) := by
  have e1 : 2 + sz1 + sz2 + m = p5 - p := by omega
  have e2 : p + (p5 - p) = p5 := by omega
  have e3 : p + (2 + sz1 + sz2) = p4 := by omega
  have e4 : 2 + sz1 + sz2 + m + 4 = p6 - p := by omega
  have el : (l.drop p).length = n - p := by rw [List.length_drop, hn]
  constructor
  · intro hTe
    refine recRd_6 hd1 hd2 ?_
    rw [Int.toNat_natCast, e1, ← hhd, hz, List.drop_drop, e2, ← hT]
    exact hTe
  · intro hTe
    subst hk
    have := recRd_ok (l := l.drop p) (n := ls.length) hd0 hd1 hkd hk0 hd2 (by rw [Int.toNat_natCast, el]; omega) (by rw [Int.toNat_natCast, e1, ← hhd, hz, List.drop_drop, e2, ← hT]; exact hTe)
    rw [this, Int.toNat_natCast, List.drop_drop, e3, e4]
theorem strOf_injJ {l m : List Int} (hl : Byt l) (hm : Byt m) (h : strOf l = strOf m) : l = m := by rw [← bytesOf_strOf hl, h, bytesOf_strOf hm]
theorem str_beqJ {l m : List Int} (hl : Byt l) (hm : Byt m) : ((strOf l).toList == (strOf m).toList) = decide (l = m) := by
  by_cases h : l = m
  · rw [h]
    simp
  · rw [decide_eq_false h, beq_eq_false_iff_ne]
    intro e
    apply h
    apply strOf_injJ hl hm
    rw [Lib.toList_data, Lib.toList_data] at e
    exact ByteArray.ext (Array.toList_inj.1 e)
end Go.Proofs.Ytlnomadhgoblkaa.Kit
