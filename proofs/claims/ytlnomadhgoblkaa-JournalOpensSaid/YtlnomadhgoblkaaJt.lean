/- The journal: record's deferred function. -/
import Derived.Test.YtlnomadhgoblkaaProg
import Derived.Test.YtlnomadhgoblkaaJo
import Derived.Test.YtlnomadhgoblkaaJs
import Derived.Defers
set_option linter.unusedVariables false
set_option linter.unusedSimpArgs false
namespace Go.Proofs.Ytlnomadhgoblkaa.Kit
open Go.RowKit
/-- what record keeps in memory of its own, from block h on -/
structure RecF (w : World) (h g : Nat) (ok : Bool) (fr : Nat) (v0 v1 : Value) : Prop where
  o : Blk w h 106 [.pointer (some ⟨g, 0, none⟩)]
  ok : Blk w (h + 1) 4 [.bool ok]
  fr : Blk w (h + 2) 3 [.int .i64 fr]
  r : Blk w (h + 3) 31 [v0, v1]
theorem RecF.chg {w w1 : World} {h g : Nat} {ok : Bool} {fr : Nat} {v0 v1 : Value} {S : Nat → Prop} (x : RecF w h g ok fr v0 v1) (k : Chg S w w1) (hS : ∀ y, S y → y < h) : RecF w1 h g ok fr v0 v1 :=
  ⟨x.o.chg k (fun e => by have := hS _ e; omega), x.ok.chg k (fun e => by have := hS _ e; omega), x.fr.chg k (fun e => by have := hS _ e; omega), x.r.chg k (fun e => by have := hS _ e; omega)⟩
theorem RecF.chg0 {w w1 : World} {h g : Nat} {ok : Bool} {fr : Nat} {v0 v1 : Value} (x : RecF w h g ok fr v0 v1) (k : Chg (fun _ => False) w w1) : RecF w1 h g ok fr v0 v1 := x.chg k (fun _ h => h.elim)
theorem recD_no {g gj h : Nat} {A : Option Addr} {n c : Nat} {l : List Int} {p fr : Nat} {v0 v1 : Value} {w : World} (u : FrameMode) (hx : Hid (RecF w h g false fr v0 v1)) (ho : Hid (Opn w g gj A n c l p)) (hfr : fr ≤ n) (hg : g < h) :
    CallsD Try.prog 63 #[.pointer (some ⟨h + 1, 0, none⟩), .pointer (some ⟨h + 2, 0, none⟩), .pointer (some ⟨h, 0, none⟩), .pointer (some ⟨h + 3, 0, none⟩)] u w fun e u' w' => u' = u ∧ (e = .returned (.tuple #[]) ∧ Opn w' g gj A n c l fr ∧ Chg (· = g) w w' ∧ RecF w' h g false fr v0 v1) := by
  have h0 := ho.out.blk.at_ (i := 0) rfl
  have h1 := ho.out.blk.at_ (i := 1) rfl
  have f1 := ho.out.blk.frozen (i := 1) (by simp)
  have x0 := hx.out.o.at_ (i := 0) rfl
  have x1 := hx.out.ok.at_ (i := 0) rfl
  have x2 := hx.out.fr.at_ (i := 0) rfl
  have K : Hid (Chg (· = g) w (w.setCell ⟨g, 1, none⟩ (.int .i64 fr))) := (Chg.refl (· = g) w).setg 1 _
  have J := Lib.hid (ho.out.move hfr)
  have X : Hid (RecF (w.setCell ⟨g, 1, none⟩ (.int .i64 fr)) h g false fr v0 v1) := hx.out.chg K.out (fun y hy => by omega)
  go_enter_d Try.func63, Try.ntmps63
  go_wp2_with fail
  refine bodyPost_ret (results_none rfl _ _ _) rfl ?_
  exact ⟨rfl, J.out, K.out, X.out⟩
theorem recD_yes {g gj h : Nat} {D : Nat → Prop} {A : Option Addr} {n c : Nat} {l : List Int} {p fr sz : Nat} {ls : List SecV} {x : SecV} {b : Value} {w : World} (u : FrameMode) (hx : Hid (RecF w h g true fr (.int .i64 x.id) b)) (ho : Hid (Opn w g gj A n c l p)) (hp : Hid (fr + sz = p)) (hz : 0 < sz)
    (hj : Hid (Jn w D gj ls)) (hbo : Hid (OwnB w b x.body)) (hba : Hid (∀ y, b.ownBlock = some y → ¬ D y)) (hl : Hid ((l.drop fr).take sz = recEnc ls.length x)) (hsz : Hid ((jnlBytes ls).length + sz ≤ 1073741824)) (hll : ls.length ≤ 1073741824) (hg : g < h) (hgj : gj < h) (hD : Hid (∀ y, D y → y < h)) (hne : g ≠ gj) (hgD : Hid (¬ D g))
    (hA : Hid (∀ y, Value.ownBlock (.slice A n c) = some y → ¬ (y = gj ∨ D y))) :
    CallsD Try.prog 63 #[.pointer (some ⟨h + 1, 0, none⟩), .pointer (some ⟨h + 2, 0, none⟩), .pointer (some ⟨h, 0, none⟩), .pointer (some ⟨h + 3, 0, none⟩)] u w fun e u' w' => u' = u ∧ (e = .returned (.tuple #[]) ∧ Opn w' g gj A n c l p ∧ Jn w' (fun y => D y ∨ b.ownBlock = some y ∨ (w.heap.size ≤ y ∧ y < w'.heap.size)) gj (ls ++ [x]) ∧ Chg (fun y => y = gj ∨ D y) w w' ∧ RecF w' h g true fr (.int .i64 x.id) b) := by
  have h0 := ho.out.blk.at_ (i := 0) rfl
  have h1 := ho.out.blk.at_ (i := 1) rfl
  have h2 := ho.out.blk.at_ (i := 2) rfl
  have x0 := hx.out.o.at_ (i := 0) rfl
  have x1 := hx.out.ok.at_ (i := 0) rfl
  have x2 := hx.out.fr.at_ (i := 0) rfl
  have x3 := hx.out.r.at_ (i := 0) rfl
  have x4 := hx.out.r.at_ (i := 1) rfl
  have hle := ho.out.le
  have hbd := ho.out.bound
  have hcap := ho.out.cap
  have hmx := ho.out.mx
  have hpp := hp.out
  have hcp : ¬ c = fr := by omega
  have b0 : (0 : Int) ≤ (fr : Int) := by omega
  have b1 : (fr : Int) ≤ (p : Int) := by omega
  have b3 : (p : Int) ≤ (c : Int) := by omega
  have HN : Hid (p - fr = (recEnc ls.length x).length) := by
    have := ho.out.len
    rw [← hl.out, Hid, List.length_take, List.length_drop]
    omega
  have HZ : Hid ((jnlBytes ls).length + (p - fr) ≤ 1073741824) := by
    have := hsz.out
    rw [Hid]
    omega
  have HR : Hid (∀ W, Chg (fun _ => False) w W → Rd W .u8 (A.map (·.add fr)) (recEnc ls.length x)) := fun W hW => by
    rw [← hl.out]
    exact (rd_from (ho.out.rd.chg hW (fun _ _ _ => id)) fr).take sz
  go_enter_d Try.func63, Try.ntmps63
  go_wp2_with fail
  go_region_held3 (fun w' => w'.cell? ⟨g, 0, none⟩ = some (.slice A n c) ∧ w'.cell? ⟨g, 1, none⟩ = some (.int .i64 p) ∧ w'.cell? ⟨g, 2, none⟩ = some (.pointer (some ⟨gj, 0, none⟩)) ∧ w'.cell? ⟨h, 0, none⟩ = some (.pointer (some ⟨g, 0, none⟩)) ∧ w'.cell? ⟨h + 2, 0, none⟩ = some (.int .i64 fr) ∧ w'.cell? ⟨h + 3, 0, none⟩ = some (.int .i64 x.id) ∧ w'.cell? ⟨h + 3, 1, none⟩ = some b)
    (first | exact ⟨h0, h1, h2, x0, x2, x3, x4⟩ | exact ⟨K4.out.blk.at_ (i := 0) rfl, K4.out.blk.at_ (i := 1) rfl, K4.out.blk.at_ (i := 2) rfl, K5.out.o.at_ (i := 0) rfl, K5.out.fr.at_ (i := 0) rfl, K5.out.r.at_ (i := 0) rfl, K5.out.r.at_ (i := 1) rfl⟩ | go_keep)
    (first | (go_at_call 43; (refine (jputI D gj b ls x _ _ _ _ (Lib.hid (hj.out.chg0 (by repeat (first | exact Chg.refl _ _ | refine Chg.drew ?_ | refine Chg.drewN ?_ _)))) (Lib.hid (hbo.out.chg (S := fun _ => False) (by repeat (first | exact Chg.refl _ _ | refine Chg.drew ?_ | refine Chg.drewN ?_ _)) (fun _ _ h => h))) hba HN (Lib.hid (HR.out _ (by repeat (first | exact Chg.refl _ _ | refine Chg.drew ?_ | refine Chg.drewN ?_ _)))) HZ hll).mono ?_; rintro e w2 ⟨rfl, k1, k2⟩; have K1 : Hid (Jn w2 (fun y => D y ∨ b.ownBlock = some y ∨ (w.heap.size ≤ y ∧ y < w2.heap.size)) gj (ls ++ [x])) := (by simpa [Hid] using k1); have K2 : Hid (Chg (fun y => y = gj ∨ D y) w w2) := (show Chg (fun y => y = gj ∨ D y) w _ from by repeat (first | exact Chg.refl _ _ | refine Chg.drew ?_ | refine Chg.drewN ?_ _)).trans k2 (fun _ _ h => h); have K4 : Hid (Opn w2 g gj A n c l p) := ho.out.chg K2.out (fun e => e.elim hne hgD.out) hA.out; have K5 : Hid (RecF w2 h g true fr (.int .i64 x.id) b) := hx.out.chg K2.out (fun y hy => hy.elim (fun e => by rw [e]; exact hgj) (hD.out y)); clear k1 k2)))
  all_goals
    go_wp2_with fail
    first | go_end0 | refine bodyPost_ret (results_none rfl _ _ _) rfl ?_
    exact ⟨rfl, K4.out, K1.out, K2.out, K5.out⟩
end Go.Proofs.Ytlnomadhgoblkaa.Kit
