/- Texts that the row leans on: Jro, Book, BookK. -/
import Derived.Test.YtlnomadhgoblkaaProg
import Derived.Test.YtlnomadhgoblkaaQJournalPairal
import Derived.Test.YtlnomadhgoblkaaQJournalPairab
import Derived.Test.YtlnomadhgoblkaaQJournalPairaj
import Derived.Test.YtlnomadhgoblkaaQJournalPairad
-- The document's journal: Open.
set_option linter.unusedVariables false
set_option linter.unusedSimpArgs false
namespace Go.Proofs.Ytlnomadhgoblkaa.Kit
open Go.RowKit
def RROpen (w : World) (R : Option (List SecV) × Nat × Int) (e : Ending) (w' : World) : Prop :=
  match R with
  | (none, m, er) => e = .returned (.tuple #[.pointer none, .int .i64 m, .int .i64 er]) ∧ Chg (fun _ => False) w w'
  | (some ls, m, er) => ∃ g D, e = .returned (.tuple #[.pointer (some ⟨g, 0, none⟩), .int .i64 m, .int .i64 er]) ∧ RJ w' D g ls ∧ (∀ y, D y → w.heap.size ≤ y) ∧ w.heap.size ≤ g ∧ Chg (fun _ => False) w w'
/-- the records read so far -/
structure ROpL (w0 w : World) (gj : Nat) (l : List Int) (f p : Nat) (ls : List SecV) (D : Nat → Prop) : Prop where
  rj : RJ w D gj ls
  size : (jnlBytes ls).length = p
  eq : jnlRd l l.length [] 8 = jnlRd l f ls p
  fuel : l.length + 8 ≤ f + p
  le : p ≤ l.length
  new : ∀ y, D y → w0.heap.size ≤ y
  chg : Chg (fun _ => False) w0 w
set_option maxRecDepth 20000 in
set_option maxHeartbeats 6400000 in
theorem ropen {A : Option Addr} {n c : Nat} {l : List Int} {R : Option (List SecV) × Nat × Int} {w : World} (hR : Hid (jopenRes l = R)) (HN : Hid (n = l.length)) (hnc : n ≤ c) (hcm : c ≤ maxLen) (hb : Hid (Byt l)) (hr : Hid (Rd w .u8 A l)) :
    Calls Try.prog 52 #[.slice A n c] w (RROpen w R) := by
  by_cases h0 : 268435456 < n
  · have hE : Hid (R = (none, 0, 6)) := by rw [Hid, ← hR.out, jopenRes, if_pos (by rw [← HN.out]; exact h0)]
    go_enter Try.func52, Try.ntmps52
    go_wp2_with fail
    go_ret3
    rw [hE.out]
    exact ⟨rfl, Chg.refl _ _⟩
  · have h0i : ¬ (268435456 : Int) < (n : Int) := by omega
    go_enter Try.func52, Try.ntmps52
    have hidx : Hid (∀ (k : Nat) (z : Int), jhead[k]? = some z → ∀ h, ((({ data := #[80, 65, 89, 74, 82, 78, 76, 49] } : ByteArray)[k]'h).toNat : Int) = z) := by
      intro k z hz h
      have hk : k < 8 := h
      have hcas : k = 0 ∨ k = 1 ∨ k = 2 ∨ k = 3 ∨ k = 4 ∨ k = 5 ∨ k = 6 ∨ k = 7 := by omega
      rcases hcas with rfl | rfl | rfl | rfl | rfl | rfl | rfl | rfl <;> (simp only [jhead, List.getElem?_cons_zero, List.getElem?_cons_succ, Option.some.injEq] at hz; subst hz; rfl)
    go_wp2_with fail
    go_loopw [5] (fun i wr => ∃ k : Nat, k ≤ 8 ∧ k ≤ n ∧ i = .int .i64 k ∧ Hid (l.take k = jhead.take k) ∧ Hid (Chg (fun _ => False) w wr)) (fun i _ => 8 - (intOf i).toNat)
    case atStart => exact ⟨0, by omega, Nat.zero_le _, rfl, rfl, Chg.refl _ _⟩
    case round =>
      obtain ⟨k, hk8, hkn, rfl, ht, hc⟩ := hrel
      by_cases hlt8 : k < 8
      · have hlt8i : (k : Int) < 8 := by omega
        by_cases hkn2 : k = n
        · have hE : Hid (R = (some [], 0, 0)) := by
            rw [Hid, ← hR.out, jopenRes, if_neg (by rw [← HN.out]; exact h0), if_neg, if_pos (by rw [← HN.out]; omega)]
            rw [List.take_of_length_le (l := l) (by rw [← HN.out]; omega), ← HN.out, ← hkn2, ← ht.out, List.take_of_length_le (by rw [← HN.out]; omega)]
            simp
          subst hkn2
          go_wp2_with fail
          refine (rnew _).mono ?_
          rintro e w2 ⟨g, rfl, k1, k2, k3⟩
          have K1 := Lib.hid k1
          have K2 : Hid (wr.heap.size ≤ g) := k2
          have C2 : Hid (Chg (fun _ => False) w w2) := hc.out.trans k3 (fun _ _ h => h)
          clear k1 k2 k3
          go_wp2_with fail
          go_ret3
          rw [hE.out]
          exact ⟨g, _, rfl, K1.out, fun _ h => h.elim, Nat.le_trans hc.out.size K2.out, C2.out⟩
        · have hlt : k < n := by omega
          have hne : ((k : Int) == (n : Int)) = false := by
            rw [beq_eq_false_iff_ne]
            omega
          have hkl : k < l.length := by rw [← HN.out]; exact hlt
          obtain ⟨adb, hA, hcb⟩ := (hr.out.below hc.out.done) k hkl
          subst hA
          obtain ⟨y, hy⟩ : ∃ y, y = l[k] := ⟨_, rfl⟩
          rw [← hy] at hcb
          have HY : Hid (l[k]? = some y) := by rw [Hid, hy, List.getElem?_eq_getElem]
          obtain ⟨z, hz⟩ : ∃ z, jhead[k]? = some z := ⟨jhead[k]'(by rw [jhead_length]; exact hlt8), List.getElem?_eq_getElem _⟩
          have HZ := Lib.hid hz
          have hix := hidx.out k z hz
          have q2 : (0 : Int) ≤ (k : Int) := by omega
          have q3 : (k : Int) < (n : Int) := by omega
          clear hz hy hkn2
          by_cases hyz : y = z
          · have HYZ := Lib.hid hyz
            have hyz2 : (y != z) = false := by simp [hyz]
            have hlast : Hid (l.take (k + 1) = jhead.take (k + 1)) := by
              have h1 : k < jhead.length := hlt8
              refine take_next ht.out hkl h1 ?_
              have e1 := HY.out
              have e2 := HZ.out
              rw [List.getElem?_eq_getElem hkl] at e1
              rw [List.getElem?_eq_getElem h1] at e2
              injection e1 with e1
              injection e2 with e2
              rw [e1, e2, hyz]
            clear hyz
            go_wp2_with fail
            go_quiet (fail)
            go_wp2_with fail
            go_roundw
            case rel => exact ⟨k + 1, by omega, by omega, by go_num, hlast, hc.out.drewN _⟩
            case measure => simp [intOf]; omega
          · have hyz2 : (y != z) = true := by simp [hyz]
            have hE : Hid (R = (none, 0, 43)) := by
              rw [Hid, ← hR.out]
              refine open_magic (k := k) (by rw [← HN.out]; omega) hkl hlt8 ?_
              rw [HY.out, HZ.out]
              intro e
              injection e with e
              exact hyz e
            clear hyz
            go_wp2_with fail
            go_quiet (fail)
            go_wp2_with fail
            go_ret3
            rw [hE.out]
            exact ⟨rfl, hc.out.drewN _⟩
      · obtain rfl : k = 8 := by omega
        have hX : l = jhead ++ l.drop 8 := by
          have h1 := ht.out
          rw [List.take_of_length_le (l := jhead) (by rw [jhead_length]; exact Nat.le_refl _)] at h1
          conv => lhs; rw [← List.take_append_drop 8 l, h1]
        have hE : Hid (R = (some (jnlRd l l.length [] 8).1, (jnlRd l l.length [] 8).2, 0)) := by
          rw [Hid, ← hR.out]
          exact open_head hX (by rw [← HN.out]; omega)
        clear hX
        go_wp2_with fail
        refine (rnew _).mono ?_
        rintro e w2 ⟨gj, rfl, k1, k2, k3⟩
        have K1 := Lib.hid k1
        have G2 : Hid (w.heap.size ≤ gj) := Nat.le_trans hc.out.size k2
        have C2 : Hid (Chg (fun _ => False) w w2) := hc.out.trans k3 (fun _ _ h => h)
        clear k1 k2 k3
        go_wp2_with fail
        go_loopg [] n (fun f wq => ∃ p ls D, p ≤ n ∧ Hid (ROpL w wq gj l f p ls D))
        case atStart => exact ⟨8, [], _, hkn, ⟨K1.out, rfl, by rw [HN.out], by rw [HN.out]; exact Nat.le_refl _, by rw [← HN.out]; exact hkn, fun _ h => h.elim, C2.out⟩⟩
        case round =>
          obtain ⟨p, ls, D, hpn, hq⟩ := hrel
          obtain ⟨vR, bs, hbk, hv, d2, d4⟩ := hq.out.rj.ex
          obtain ⟨AR, cR, hRv, hcR, _⟩ := hv.row.slice
          obtain ⟨nl, hnl⟩ : ∃ nl, nl = ls.length := ⟨_, rfl⟩
          rw [← hnl] at hRv
          subst hRv
          rw [hq.out.size] at hbk
          have hnlb : nl ≤ 33554432 := by
            have h1 := jnlBytes_len ls
            have h2 := hq.out.size
            omega
          have BK := Lib.hid hbk
          have HV := Lib.hid hv
          have HD2 := Lib.hid d2
          have HD4 := Lib.hid d4
          have HNL := Lib.hid hnl
          have t0 := hbk.at_ (i := 0) rfl
          have t1 := hbk.at_ (i := 1) rfl
          have TA : Hid (∀ W, Chg (fun _ => False) wr W → W.cell? ⟨gj, 0, none⟩ = some (.slice AR nl cR) ∧ W.cell? ⟨gj, 1, none⟩ = some (.int .i64 (p : Nat))) := fun W hW => ⟨hW.cell id t0, hW.cell id t1⟩
          obtain ⟨ad, hA⟩ : ∃ ad, A = some ad := by
            obtain ⟨ad, e, _⟩ := hr.out 0 (by rw [← HN.out]; omega)
            exact ⟨ad, e⟩
          subst hA
          have RL : Hid (∀ W, Chg (fun _ => False) wr W → Hid (Rd W .u8 (some (ad.add p)) (l.drop p))) := fun W hW => (hr.out.below (hq.out.chg.trans hW (fun _ _ h => h)).done).drop rfl p
          obtain ⟨RN, hRN⟩ : ∃ RN, recRd (l.drop p) nl = RN := ⟨_, rfl⟩
          have HRN := Lib.hid hRN
          have hbD : Hid (Byt (l.drop p)) := byt_drop hb.out p
          have q0 : (0 : Int) ≤ (p : Int) := by omega
          have q1 : (p : Int) ≤ (n : Int) := by omega
          have HLD : Hid (n - p = (l.drop p).length) := by rw [Hid, List.length_drop, ← HN.out]
          clear hbk hv d2 d4 hnl hRN hcR
          go_upto_region 11 with fail
          go_cut [7, 8] from 29 to 43 (fun rp nn wx => ∃ hx : Nat, rp = .pointer (some ⟨hx, 0, none⟩) ∧ Hid (Chg (fun _ => False) wr wx) ∧ ((Hid (RN = none) ∧ nn = .int .i64 0) ∨ ∃ (x : SecV) (sz : Nat) (A7 : Option Addr) (m c7 : Nat), Hid (RN = some (x, sz)) ∧ nn = .int .i64 sz ∧ Hid (Blk wx hx 31 [.int .i64 x.id, .slice A7 m c7]) ∧ Hid (OwnB wx (.slice A7 m c7) x.body) ∧ Hid (m = x.body.length) ∧ Hid (∀ y, Value.ownBlock (.slice A7 m c7) = some y → wr.heap.size ≤ y)))
          case first =>
            by_cases hcp : c = p
            · have hnp : n - p = 0 := by omega
              have hdn : l.drop p = [] := List.drop_of_length_le (by rw [← HN.out]; omega)
              have hRN0 : RN = none := by
                rw [← HRN.out, hdn]
                exact recRd_nil _
              subst hRN0
              have RL0 : Hid (∀ W, Chg (fun _ => False) wr W → Hid (Rd W .u8 (some ad) (l.drop p))) := fun W _ => by
                rw [hdn]
                exact Rd.nil _ _ _
              have HLD0 : Hid (0 = (l.drop p).length) := by rw [hdn]; rfl
              clear hdn
              have hcp2 := hcp.symm
              subst hcp2
              go_region_held3 (fun w' => w'.cell? ⟨gj, 0, none⟩ = some (.slice AR nl cR) ∧ w'.cell? ⟨gj, 1, none⟩ = some (.int .i64 (p : Nat))) (exact TA.out _ (by repeat (first | exact C5.out | exact Chg.refl _ _ | refine Chg.drew ?_ | refine Chg.drewN ?_ _ | refine Chg.alloc ?_ _ | refine Chg.setCell ?_ (fun e => absurd e (Nat.lt_irrefl _)) _))) (first | (go_at_call 67; (with_reducible refine (rnext HRN HLD0 (by omega) (by omega) hbD (RL0.out _ (by repeat (first | exact Chg.refl _ _ | refine Chg.drew ?_ | refine Chg.drewN ?_ _ | refine Chg.alloc ?_ _)))).mono ?_); rintro e w5 ⟨rfl, k1⟩; have C5 : Hid (Chg (fun _ => False) wr w5) := (show Chg (fun _ => False) wr _ from by repeat (first | exact Chg.refl _ _ | refine Chg.drew ?_ | refine Chg.drewN ?_ _ | refine Chg.alloc ?_ _)).trans k1 (fun _ _ h => h); (try (have BB : Hid (Blk w5 wr.heap.size 31 [.int .i64 0, .slice none 0 0]) := Blk.chg (by first | exact (Blk.new wr #[.int .i64 0, .slice none 0 0] 31) | exact (Blk.new wr #[.int .i64 0, .slice none 0 0] 31).drew | exact (Blk.new wr #[.int .i64 0, .slice none 0 0] 31).drew.drew | exact (Blk.new wr.drew #[.int .i64 0, .slice none 0 0] 31) | exact (Blk.new wr.drew #[.int .i64 0, .slice none 0 0] 31).drew | exact (Blk.new wr.drew #[.int .i64 0, .slice none 0 0] 31).drew.drew | exact (Blk.new wr.drew.drew #[.int .i64 0, .slice none 0 0] 31) | exact (Blk.new wr.drew.drew #[.int .i64 0, .slice none 0 0] 31).drew | exact (Blk.new wr.drew.drew #[.int .i64 0, .slice none 0 0] 31).drew.drew) k1 id; obtain ⟨z1, z2, z3, z4, z5, z6⟩ := cell2_store BB.out (.int .i64 0) (.slice none 0 0))); clear k1))
              all_goals
                go_wp2_with fail
                go_meet
                case rel =>
                  first
                  | exact ⟨_, rfl, by repeat (first | exact C5.out | exact Chg.refl _ _ | refine Chg.drew ?_ | refine Chg.drewN ?_ _ | refine Chg.alloc ?_ _ | refine Chg.setCell ?_ (fun e => absurd e (Nat.lt_irrefl _)) _), .inl ⟨(by first | exact rfl | exact True.intro), rfl⟩⟩
                  | exact ⟨_, rfl, by repeat (first | exact C5.out | exact Chg.refl _ _ | refine Chg.drew ?_ | refine Chg.drewN ?_ _ | refine Chg.alloc ?_ _ | refine Chg.setCell ?_ (fun e => absurd e (Nat.lt_irrefl _)) _), .inl ⟨(by first | exact rfl | exact True.intro), rfl⟩⟩
            · have hcp2 : ¬ (c : Int) = (p : Int) := by omega
              rcases RN with _ | ⟨x, sz⟩
              · go_region_held3 (fun w' => w'.cell? ⟨gj, 0, none⟩ = some (.slice AR nl cR) ∧ w'.cell? ⟨gj, 1, none⟩ = some (.int .i64 (p : Nat))) (exact TA.out _ (by repeat (first | exact C5.out | exact Chg.refl _ _ | refine Chg.drew ?_ | refine Chg.drewN ?_ _ | refine Chg.alloc ?_ _ | refine Chg.setCell ?_ (fun e => absurd e (Nat.lt_irrefl _)) _))) (first | (go_at_call 67; (with_reducible refine (rnext HRN HLD (by omega) (by omega) hbD (RL.out _ (by repeat (first | exact Chg.refl _ _ | refine Chg.drew ?_ | refine Chg.drewN ?_ _ | refine Chg.alloc ?_ _)))).mono ?_); rintro e w5 ⟨rfl, k1⟩; have C5 : Hid (Chg (fun _ => False) wr w5) := (show Chg (fun _ => False) wr _ from by repeat (first | exact Chg.refl _ _ | refine Chg.drew ?_ | refine Chg.drewN ?_ _ | refine Chg.alloc ?_ _)).trans k1 (fun _ _ h => h); (try (have BB : Hid (Blk w5 wr.heap.size 31 [.int .i64 0, .slice none 0 0]) := Blk.chg (by first | exact (Blk.new wr #[.int .i64 0, .slice none 0 0] 31) | exact (Blk.new wr #[.int .i64 0, .slice none 0 0] 31).drew | exact (Blk.new wr #[.int .i64 0, .slice none 0 0] 31).drew.drew | exact (Blk.new wr.drew #[.int .i64 0, .slice none 0 0] 31) | exact (Blk.new wr.drew #[.int .i64 0, .slice none 0 0] 31).drew | exact (Blk.new wr.drew #[.int .i64 0, .slice none 0 0] 31).drew.drew | exact (Blk.new wr.drew.drew #[.int .i64 0, .slice none 0 0] 31) | exact (Blk.new wr.drew.drew #[.int .i64 0, .slice none 0 0] 31).drew | exact (Blk.new wr.drew.drew #[.int .i64 0, .slice none 0 0] 31).drew.drew) k1 id; obtain ⟨z1, z2, z3, z4, z5, z6⟩ := cell2_store BB.out (.int .i64 0) (.slice none 0 0))); clear k1))
                all_goals
                  go_wp2_with fail
                  go_meet
                  case rel =>
                    first
                    | exact ⟨_, rfl, by repeat (first | exact C5.out | exact Chg.refl _ _ | refine Chg.drew ?_ | refine Chg.drewN ?_ _ | refine Chg.alloc ?_ _ | refine Chg.setCell ?_ (fun e => absurd e (Nat.lt_irrefl _)) _), .inl ⟨(by first | exact rfl | exact True.intro), rfl⟩⟩
                    | exact ⟨_, rfl, by repeat (first | exact C5.out | exact Chg.refl _ _ | refine Chg.drew ?_ | refine Chg.drewN ?_ _ | refine Chg.alloc ?_ _ | refine Chg.setCell ?_ (fun e => absurd e (Nat.lt_irrefl _)) _), .inl ⟨(by first | exact rfl | exact True.intro), rfl⟩⟩
              · go_region_held3 (fun w' => w'.cell? ⟨gj, 0, none⟩ = some (.slice AR nl cR) ∧ w'.cell? ⟨gj, 1, none⟩ = some (.int .i64 (p : Nat))) (exact TA.out _ (by repeat (first | exact C5.out | exact Chg.refl _ _ | refine Chg.drew ?_ | refine Chg.drewN ?_ _ | refine Chg.alloc ?_ _ | refine Chg.setCell ?_ (fun e => absurd e (Nat.lt_irrefl _)) _))) (first | (go_at_call 67; (with_reducible refine (rnext HRN HLD (by omega) (by omega) hbD (RL.out _ (by repeat (first | exact Chg.refl _ _ | refine Chg.drew ?_ | refine Chg.drewN ?_ _ | refine Chg.alloc ?_ _)))).mono ?_); rintro e w5 ⟨A7, m7, c7, rfl, o7, l7, k1, k2⟩; have C5 : Hid (Chg (fun _ => False) wr w5) := (show Chg (fun _ => False) wr _ from by repeat (first | exact Chg.refl _ _ | refine Chg.drew ?_ | refine Chg.drewN ?_ _ | refine Chg.alloc ?_ _)).trans k1 (fun _ _ h => h); (try (have BB : Hid (Blk w5 wr.heap.size 31 [.int .i64 0, .slice none 0 0]) := Blk.chg (by first | exact (Blk.new wr #[.int .i64 0, .slice none 0 0] 31) | exact (Blk.new wr #[.int .i64 0, .slice none 0 0] 31).drew | exact (Blk.new wr #[.int .i64 0, .slice none 0 0] 31).drew.drew | exact (Blk.new wr.drew #[.int .i64 0, .slice none 0 0] 31) | exact (Blk.new wr.drew #[.int .i64 0, .slice none 0 0] 31).drew | exact (Blk.new wr.drew #[.int .i64 0, .slice none 0 0] 31).drew.drew | exact (Blk.new wr.drew.drew #[.int .i64 0, .slice none 0 0] 31) | exact (Blk.new wr.drew.drew #[.int .i64 0, .slice none 0 0] 31).drew | exact (Blk.new wr.drew.drew #[.int .i64 0, .slice none 0 0] 31).drew.drew) k1 id; obtain ⟨z1, z2, z3, z4, z5, z6⟩ := cell2_store BB.out (.int .i64 x.id) (.slice A7 m7 c7))); have O7 := Lib.hid o7; have L7 := Lib.hid l7; have F7 : Hid (∀ y, Value.ownBlock (.slice A7 m7 c7) = some y → wr.heap.size ≤ y) := (fun y hy => Nat.le_trans (by simp) (k2 y hy)); clear o7 l7 k1 k2))
                all_goals
                  go_wp2_with fail
                  go_meet
                  case rel =>
                    first
                    | exact ⟨_, rfl, by repeat (first | exact C5.out | exact Chg.refl _ _ | refine Chg.drew ?_ | refine Chg.drewN ?_ _ | refine Chg.alloc ?_ _ | refine Chg.setCell ?_ (fun e => absurd e (Nat.lt_irrefl _)) _), .inr ⟨x, sz, A7, m7, c7, (by first | exact rfl | exact True.intro), rfl, (Blk.new w5 #[.int .i64 x.id, .slice A7 m7 c7] 31), O7.out.alloc _, L7.out, F7.out⟩⟩
                    | exact ⟨_, rfl, by repeat (first | exact C5.out | exact Chg.refl _ _ | refine Chg.drew ?_ | refine Chg.drewN ?_ _ | refine Chg.alloc ?_ _ | refine Chg.setCell ?_ (fun e => absurd e (Nat.lt_irrefl _)) _), .inr ⟨x, sz, A7, m7, c7, (by first | exact rfl | exact True.intro), rfl, (BB.out.set 0 _).set 1 _, O7.out.chg (S := fun y => y = wr.heap.size) (((Chg.refl (fun y => y = wr.heap.size) w5).setCell (p := ⟨wr.heap.size, 0, none⟩) (fun _ => rfl) _).setCell (p := ⟨wr.heap.size, 1, none⟩) (fun _ => rfl) _) (fun y hy e => OwnV.type_ne O7.out BB.out (by decide) (by rw [hy, e])), L7.out, F7.out⟩⟩
          case rest =>
            obtain ⟨hx, rfl, CX, hres⟩ := hcut
            have BG := Lib.hid (BK.out.chg CX.out id)
            have VG := Lib.hid (HV.out.chg CX.out (fun _ _ h => h) (fun _ _ _ _ h => h))
            have Cw : Hid (Chg (fun _ => False) w wc) := hq.out.chg.trans CX.out (fun _ _ h => h)
            obtain ⟨g0c, g1c⟩ := TA.out wc CX.out
            clear t0 t1
            rcases hres with ⟨hnone, rfl⟩ | ⟨x, sz, A7, m, c7, hsome, rfl, BX, OX, LX, FX⟩
            · have hend : Hid (jnlRd l l.length [] 8 = (ls, p)) := by
                rw [Hid, hq.out.eq]
                exact jnlRd_stop (by rw [← HNL.out, HRN.out]; exact hnone.out)
              have hE2 : Hid (R = (some ls, p, 0)) := by rw [Hid, hE.out, hend.out]
              have RJ2 : Hid (RJ wc D gj ls) := hq.out.rj.chg0 CX.out
              have q5 : Hid (∀ q, (wc.drewN q).cell? ⟨gj, 1, none⟩ = some (.int .i64 (p : Nat))) := fun q => g1c
              go_wp2_with fail
              go_quiet (fail)
              go_wp2_with fail
              go_ret3
              rw [hE2.out]
              exact ⟨gj, D, rfl, RJ2.out.chg0 ((Chg.refl _ wc).drewN _), hq.out.new, G2.out, Cw.out.drewN _⟩
            · obtain ⟨x1, x2, x3, x4⟩ := recRd_form hbD.out (show recRd (l.drop p) nl = some (x, sz) by rw [HRN.out]; exact hsome.out)
              rw [List.length_drop] at x4
              have hsz8 : 8 ≤ sz := by
                have h1 := recEnc_length nl x
                have h2 := recHd_length nl x
                have h3 := vb_pos nl
                have h4 := vb_pos x.body.length
                omega
              have hs0 : ((sz : Int) == 0) = false := by
                rw [beq_eq_false_iff_ne]
                omega
              have hpl := hq.out.le
              have hfu := hq.out.fuel
              have hpsz : p + sz ≤ l.length := by omega
              have HG := Lib.hid x1
              have HS8 := Lib.hid hsz8
              have HSZ := Lib.hid x2
              have HPS := Lib.hid hpsz
              have HFU : Hid (1 ≤ gk) := by rw [Hid]; omega
              have hpsb : p + sz ≤ 268435456 := by rw [← HN.out] at hpsz; omega
              have rowT := VG.out.row
              rw [← HNL.out] at rowT
              have HRT := Lib.hid rowT
              have hgR : Hid (∀ y, Value.ownBlock (.slice AR nl cR) = some y → y ≠ gj) := fun y hy e => OwnV.type_ne HRT.out BG.out (by decide) (by rw [hy, e])
              have d2 := BX.out.at_ (i := 0) rfl
              have d3 := BX.out.at_ (i := 1) rfl
              have d1a : (wc.alloc (.cells #[.int .i64 x.id, .slice A7 m c7] 31)).drew.cell? ⟨gj, 0, none⟩ = some (.slice AR nl cR) := (((Chg.refl (fun _ => False) wc).alloc _).drew).cell (fun h => h) g0c
              clear x1 x2 x3 x4 hpl hfu hpsz rowT hsz8
              go_upto_region 13 with fail
              go_cut [] from 29 to 58 (fun wx => ∃ A6 c6, Hid (Blk wx gj 113 [.slice A6 (nl + 1) c6, .int .i64 (p : Nat)]) ∧ Hid (OwnV wx 31 2 (.slice A6 (nl + 1) c6) (nl + 1) (tCells ls bs ++ [.int .i64 x.id, .slice A7 m c7])) ∧ Hid (Chg (fun y => y = gj ∨ Value.ownBlock (.slice AR nl cR) = some y) wc wx) ∧ Hid (Fresh wc (.slice AR nl cR) (.slice A6 (nl + 1) c6)))
              case first =>
                go_region_law (first | ((refine st_app2 rfl _ _ 49 31 (.agg #[.int .i64 0, .slice none 0 0]) 32 rfl Try.underlying49 infoRec rfl (by decide) (.slice AR nl cR) nl (tCells ls bs) (.int .i64 x.id) (.slice A7 m c7) rfl rfl rfl (HRT.out.chg (S := fun _ => False) (by repeat (first | exact Chg.refl _ _ | refine Chg.drew ?_ | refine Chg.drewN ?_ _ | refine Chg.alloc ?_ _)) (fun _ _ h => h)) wc.heap.size rfl (box_news2 _ _ _ (fun _ => rfl)) (by omega) ?_; intro v6 w6 k1 k2 k3; obtain ⟨A6, c6, rfl, _, _⟩ := k1.slice; have N1 := Lib.hid k1; have N2 : Hid (Chg (fun y => Value.ownBlock (.slice AR nl cR) = some y) wc w6) := (show Chg _ wc _ from by repeat (first | exact Chg.refl _ _ | refine Chg.drew ?_ | refine Chg.drewN ?_ _ | refine Chg.alloc ?_ _)).trans k2 (fun _ _ h => h); have N3 : Hid (Fresh wc (.slice AR nl cR) (.slice A6 (nl + 1) c6)) := k3.imp id (fun h y hy => Nat.le_trans (by simp) (h y hy)); clear k1 k2 k3; have B6 : Hid (Blk w6 gj 113 [.slice AR nl cR, .int .i64 (p : Nat)]) := BG.out.chg N2.out (fun e => hgR.out gj e rfl); have e6 := B6.out.at_ (i := 0) rfl; have f6 := B6.out.frozen (i := 0) (by simp))))
                all_goals
                  go_wp2_with fail
                  go_meet
                  case rel => exact ⟨A6, c6, B6.out.set 0 _, N1.out.chg ((Chg.refl (· = gj) w6).setg 0 _) (fun y hy e => OwnV.type_ne N1.out B6.out (by decide) (by rw [hy, e])), (N2.out.mono (fun _ _ h => .inr h)).setCell (p := ⟨gj, 0, none⟩) (fun _ => .inl rfl) _, N3.out⟩
              case rest =>
                obtain ⟨A6, c6, B6, N6, C6, F6⟩ := hcut
                have e1 := B6.out.at_ (i := 1) rfl
                have f1 := B6.out.frozen (i := 1) (by simp)
                have O6 : Hid (OwnB wc (.slice A7 m c7) x.body) := OX.out.chg C6.out (fun y hy h => by
                  rcases h with h | h
                  · exact OwnV.type_ne OX.out BG.out (by decide) (by rw [hy, h])
                  · obtain ⟨cur, hcu⟩ := OwnV.typed OX.out y hy
                    exact HRT.out.type_ne hcu (by decide) h)
                have R6 : Hid (Recs wc (.slice A6 (nl + 1) c6) (ls ++ [x]) (bs ++ [.slice A7 m c7])) := VG.out.snoc HNL.out.symm C6.out (fun y hy ht => by
                  obtain ⟨cur, hcu⟩ := ht
                  rcases hy with hy | hy
                  · rw [hy] at hcu
                    exact hcu.type_ne BG.out (by decide) rfl
                  · exact HRT.out.type_ne hcu (by decide) hy) N6.out O6.out
                clear g0c g1c d2 d3 d1a
                go_wp2_with fail
                go_roundg (gk - 1)
                case measure =>
                  have := HFU.out
                  omega
                case rel =>
                  have CZ : Chg (fun y => y = gj) wc (wc.setCell ⟨gj, 1, none⟩ (.int .i64 ((p : Int) + (sz : Int)))) := (Chg.refl (fun y => y = gj) wc).setg 1 _
                  have hlen : (jnlBytes (ls ++ [x])).length = p + sz := by
                    rw [jnlBytes_snoc, List.length_append, hq.out.size, HSZ.out, HNL.out]
                  refine ⟨p + sz, ls ++ [x], fun y => D y ∨ (w.heap.size ≤ y ∧ y < wc.heap.size ∧ y ≠ gj), by rw [HN.out]; exact HPS.out, ⟨⟨.slice A6 (nl + 1) c6, bs ++ [.slice A7 m c7], ?_, ?_, fun y hy => ?_, fun b hb y hy => ?_⟩, fun y hy => ?_, fun hy => ?_⟩, hlen, ?_, ?_, HPS.out, fun y hy => ?_, ?_⟩
                  · have := B6.out.set 1 (.int .i64 ((p : Int) + (sz : Int)))
                    rw [hlen]
                    exact this
                  · refine R6.out.chg CZ (fun y hy e => OwnV.type_ne R6.out.row B6.out (by decide) (by rw [hy, e])) (fun b hb y hy e => ?_)
                    obtain ⟨i, hi, rfl⟩ := List.getElem_of_mem hb
                    exact OwnV.type_ne (R6.out.own i (by rw [← R6.out.lenB]; exact hi) hi) B6.out (by decide) (by rw [hy, e])
                  · rcases F6.out with h | h
                    · exact .inl (HD2.out y (by rw [← h]; exact hy))
                    · exact .inr ⟨Nat.le_trans Cw.out.size (h y hy), N6.out.lt y hy, fun e => OwnV.type_ne N6.out B6.out (by decide) (by rw [hy, e])⟩
                  · rcases List.mem_append.1 hb with hb | hb
                    · exact .inl (HD4.out b hb y hy)
                    · rw [List.mem_singleton.1 hb] at hy
                      exact .inr ⟨Nat.le_trans hq.out.chg.size (FX.out y hy), O6.out.lt y hy, fun e => OwnV.type_ne O6.out B6.out (by decide) (by rw [hy, e])⟩
                  · have hz : (wc.setCell ⟨gj, 1, none⟩ (.int .i64 ((p : Int) + (sz : Int)))).heap.size = wc.heap.size := by simp [World.setCell]
                    rw [hz]
                    rcases hy with hy | hy
                    · exact Nat.lt_of_lt_of_le (hq.out.rj.size y hy) (Nat.le_trans CX.out.size C6.out.size)
                    · exact hy.2.1
                  · rcases hy with hy | hy
                    · exact hq.out.rj.out hy
                    · exact hy.2.2 rfl
                  · rw [hq.out.eq]
                    have hgk : gk = (gk - 1) + 1 := by have := HFU.out; omega
                    rw [hgk]
                    exact jnlRd_step (by rw [← HNL.out, HRN.out]; exact hsome.out)
                  · have h1 := hq.out.fuel
                    have h2 := HFU.out
                    have h3 := HS8.out
                    omega
                  · rcases hy with hy | hy
                    · exact hq.out.new y hy
                    · exact hy.1
                  · refine (Cw.out.old C6.out (fun y hy => ?_)).old CZ (fun y hy => by rw [hy]; exact G2.out)
                    rcases hy with hy | hy
                    · rw [hy]
                      exact G2.out
                    · exact hq.out.new y (HD2.out y hy)
end Go.Proofs.Ytlnomadhgoblkaa.Kit
-- The laws' Book: lists that were handed out, each written full with a mark of its own.
set_option linter.unusedVariables false
set_option linter.unusedSimpArgs false
namespace Go.Proofs.Ytlnomadhgoblkaa.Kit
open Go.RowKit
section
variable {P : Program} {ops : Array Oper} {rest : List Oper} {o : Oper} {a : Act} {Q : Exit → Act → World → Prop}
/-- append(v, y) of values of one cell: the world is 'W.alloc' of the box of y -/
theorem wp_appv1 {W : World} (hgd : o.guard = none) (s x : Operand) (t e : TypeId) (z : Value) (bytes : Nat)
    (ho : o.op = .call { callee := .builtin .append, args := #[s, x], argTypes := #[t, t] })
    (ht : P.underlying t = some (.slice e)) (hinfo : (P.info? e).map (fun i => (i.zero, i.size, i.bytes)) = some (some z, 1, bytes)) (hzs : z.cells.size = 1) (hby : 0 < bytes)
    (v : Value) (n : Nat) (cs : List Value) (y : Value) (hy : y.oneCell' = true) (hs : a.eval s = v) (hown : OwnV W e 1 v n cs)
    (hx : a.eval x = .slice (some ⟨W.heap.size, 0, none⟩) 1 1) (hbytes : ((n + 1) + (n + 1) / 4 + 192) * bytes ≤ 281474976710656)
    (h : ∀ v' w', OwnV w' e 1 v' (n + 1) (cs ++ [y]) → Chg (fun g => v.ownBlock = some g) W w' → Fresh W v v' → wpList P ops Q rest (a.put o.dst v') w') :
    wpList P ops Q (o :: rest) a (W.alloc (.cells #[y] e)) :=
  wpList_plain hgd fun _ hK => by
    refine ow_appW (W := W.alloc (.cells #[y] e)) s x t e z 1 bytes ho ht hinfo hzs (by decide) hby v n cs hs (hown.chg (S := fun _ => False) ((Chg.refl _ W).alloc _) (fun _ _ h => h)) _ 1 1 [y] hx rfl ?_ (by simpa using hy) hbytes fun v' w' h2 h3 h4 h5 => hK _ _ (h v' w' h2 ?_ ?_)
    · intro j u hj
      have : j = 0 := by
        rcases j with _ | j
        · rfl
        · simp at hj
      subst this
      refine ⟨_, rfl, ?_⟩
      have := (Blk.new W #[y] e).cell 0
      rw [show (⟨W.heap.size, 0, none⟩ : Addr).add 0 = ⟨W.heap.size, 0, none⟩ from rfl, this]
      simpa using hj
    · exact ((Chg.refl _ W).alloc _).trans h4 (fun _ _ h => h)
    · rcases h5 with h5 | h5
      · exact .inl h5
      · refine .inr fun g hg => ?_
        rw [h5] at hg
        injection hg with hg
        simp at hg
        omega
end
/-- the mark of the i-th list -/
def mk (i : Nat) : Int := 1 + ((i % 120 : Nat) : Int)
theorem mk_range (i : Nat) : 1 ≤ mk i ∧ mk i ≤ 120 := by
  unfold mk
  have := Nat.mod_lt i (by decide : 0 < 120)
  omega
/-- written full up to k -/
def fillUp (l : List Int) (m : Int) (k : Nat) : List Int := List.replicate k m ++ l.drop k
theorem fillUp_length (l : List Int) (m : Int) (k : Nat) (hk : k ≤ l.length) : (fillUp l m k).length = l.length := by
  simp [fillUp]
  omega
theorem fillUp_set (l : List Int) (m : Int) (k : Nat) (hk : k < l.length) : (fillUp l m k).set k m = fillUp l m (k + 1) := by
  unfold fillUp
  rw [List.set_append_right _ _ (by simp), List.length_replicate, Nat.sub_self, List.drop_eq_getElem_cons hk, List.set_cons_zero, List.replicate_succ']
  simp
theorem fillUp_full (l : List Int) (m : Int) : fillUp l m l.length = List.replicate l.length m := by simp [fillUp]
/-- an entry of a book: the list, the list grown, its length -/
structure Ent where
  v : Value
  u : Value
  n : Nat
def entVals (es : List Ent) : List Value := es.flatMap fun x => [x.v, x.u]
theorem entVals_length (es : List Ent) : (entVals es).length = 2 * es.length := by
  induction es with
  | nil => rfl
  | cons x xs ih => simp only [entVals, List.flatMap_cons, List.length_append, List.length_cons, List.length_nil] at ih ⊢; omega
theorem entVals_snoc (es : List Ent) (x : Ent) : entVals (es ++ [x]) = entVals es ++ [x.v] ++ [x.u] := by simp [entVals]
/-- a slice of bytes that is read, over a block of bytes -/
structure RdT (w : World) (v : Value) (l : List Int) : Prop where
  reads : ∃ A c, v = .slice A l.length c ∧ l.length ≤ c ∧ c ≤ maxLen ∧ Rd w .u8 A l
  typed : ∀ g, v.ownBlock = some g → ∃ cur, Blk w g 5 cur
theorem RdT.chg {w w1 : World} {v : Value} {l : List Int} {S : Nat → Prop} (h : RdT w v l) (c : Chg S w w1) (hS : ∀ g, v.ownBlock = some g → ¬ S g) : RdT w1 v l := by
  refine ⟨?_, fun g hg => ?_⟩
  · obtain ⟨A, d, rfl, hd, hm, hr⟩ := h.reads
    exact ⟨A, d, rfl, hd, hm, hr.chg c fun ad e _ => hS ad.block (by rw [e]; rfl)⟩
  · obtain ⟨cur, hb⟩ := h.typed g hg
    exact ⟨cur, hb.chg c (hS g hg)⟩
theorem RdT.drewN {w : World} {v : Value} {l : List Int} (h : RdT w v l) (n : Nat) : RdT (w.drewN n) v l := ⟨h.reads, h.typed⟩
theorem Own.rdT {w : World} {v : Value} {l : List Int} (h : OwnB w v l) : RdT w v l := by
  refine ⟨?_, OwnV.typed h⟩
  obtain ⟨A, c, rfl, hc, hm⟩ := h.slice
  exact ⟨A, c, rfl, hc, hm, h.rd rfl⟩
/-- behind an append to u, which began with what stood in v -/
theorem RdT.old {w w1 w2 : World} {v u : Value} {l pre t : List Int} (hv : OwnB w v l) (hR : RdT w1 v l) (hu : OwnB w2 u pre) (hp : pre = l ++ t) (hc : Chg (fun g => u.ownBlock = some g) w1 w2) : RdT w2 v l := by
  obtain ⟨A, d, rfl, hd, hm, hr⟩ := hR.reads
  refine ⟨⟨A, d, rfl, hd, hm, old_view hv (fun A' n' c' e => by injection e with e _ _; exact e ▸ hr) hu hp hc _ _ _ rfl⟩, fun g hg => ?_⟩
  by_cases hb : u.ownBlock = some g
  · exact OwnV.typed hu g hb
  · obtain ⟨cur, h⟩ := hR.typed g hg
    exact ⟨cur, h.chg hc hb⟩
/-- the i-th entry holds its marks -/
structure EntOk (w : World) (bs : Nat → Prop) (i : Nat) (x : Ent) : Prop where
  v : RdT w x.v (List.replicate x.n (mk i))
  u : RdT w x.u (List.replicate x.n (mk i) ++ List.replicate 90 (mk i + 121))
  bv : ∀ g, x.v.ownBlock = some g → bs g
  bu : ∀ g, x.u.ownBlock = some g → bs g
theorem EntOk.mono' {w w1 : World} {bs S : Nat → Prop} {i : Nat} {x : Ent} (h : EntOk w bs i x) (c : Chg S w w1) (hS : ∀ g, bs g → (∃ cur, Blk w g 5 cur) → ¬ S g) : EntOk w1 bs i x :=
  ⟨h.v.chg c fun g hg => hS g (h.bv g hg) (h.v.typed g hg), h.u.chg c fun g hg => hS g (h.bu g hg) (h.u.typed g hg), h.bv, h.bu⟩
/-- the lists of a book -/
structure BookL (w : World) (L : Value) (bs : Nat → Prop) (es : List Ent) : Prop where
  row : OwnV w 29 1 L (2 * es.length) (entVals es)
  ent : ∀ i (h : i < es.length), EntOk w bs i es[i]
theorem EntOk.chg {w w1 : World} {bs S : Nat → Prop} {i : Nat} {x : Ent} (h : EntOk w bs i x) (c : Chg S w w1) (hS : ∀ g, bs g → ¬ S g) : EntOk w1 bs i x :=
  ⟨h.v.chg c fun g hg => hS g (h.bv g hg), h.u.chg c fun g hg => hS g (h.bu g hg), h.bv, h.bu⟩
theorem EntOk.mono {w : World} {bs cs : Nat → Prop} {i : Nat} {x : Ent} (h : EntOk w bs i x) (hS : ∀ g, bs g → cs g) : EntOk w cs i x :=
  ⟨h.v, h.u, fun g hg => hS g (h.bv g hg), fun g hg => hS g (h.bu g hg)⟩
theorem EntOk.drewN {w : World} {bs : Nat → Prop} {i : Nat} {x : Ent} (h : EntOk w bs i x) (n : Nat) : EntOk (w.drewN n) bs i x := ⟨h.v.drewN n, h.u.drewN n, h.bv, h.bu⟩
theorem BookL.chg {w w1 : World} {L : Value} {bs S : Nat → Prop} {es : List Ent} (h : BookL w L bs es) (c : Chg S w w1) (hL : ∀ g, L.ownBlock = some g → ¬ S g) (hS : ∀ g, bs g → ¬ S g) : BookL w1 L bs es :=
  ⟨h.row.chg c hL, fun i hi => (h.ent i hi).chg c hS⟩
theorem BookL.mono {w : World} {L : Value} {bs cs : Nat → Prop} {es : List Ent} (h : BookL w L bs es) (hS : ∀ g, bs g → cs g) : BookL w L cs es := ⟨h.row, fun i hi => (h.ent i hi).mono hS⟩
theorem BookL.none (w : World) (bs : Nat → Prop) : BookL w (.slice none 0 0) bs [] := ⟨OwnV.nil _ _ _, fun i hi => absurd hi (by simp)⟩
/-- no block of bytes is the row of the lists -/
theorem BookL.ne {w : World} {L : Value} {bs : Nat → Prop} {es : List Ent} (h : BookL w L bs es) {v : Value} {l : List Int} (hv : OwnB w v l) : ∀ g, v.ownBlock = some g → L.ownBlock ≠ some g := by
  intro g hg
  obtain ⟨cur, hb⟩ := OwnV.typed hv g hg
  exact h.row.type_ne hb (by decide)
theorem infoL : (Try.prog.info? 29).map (fun i => (i.zero, i.size, i.bytes)) = some (some (.slice none 0 0), 1, 24) := by kernel_rfl
set_option maxRecDepth 20000 in
set_option maxHeartbeats 1600000 in
theorem putM (g o : Nat) (e : TypeId) (cur : List Value) (L lv : Value) (l : List Int) (es : List Ent) (bs : Nat → Prop) (w : World) (he : e ≠ 5) (he2 : e ≠ 29)
    (hb : Hid (Blk w g e cur)) (h0 : cur[o]? = some L) (h1 : cur[o + 1]? = some (.bool false)) (hL : Hid (BookL w L bs es)) (hl : Hid (OwnB w lv l)) (hap : Hid (∀ k, lv.ownBlock = some k → ¬ bs k)) (hbl : Hid (∀ k, bs k → k < w.heap.size))
    (hk : es.length ≤ 4398046511104) (hn : l.length ≤ 140738025226240) :
    Calls Try.prog 54 #[.pointer (some ⟨g, o, none⟩), lv] w (fun e1 w' => ∃ L' lv', e1 = .returned (.tuple #[]) ∧ Blk w' g e (cur.set o L') ∧ BookL w' L' (fun k => bs k ∨ lv.ownBlock = some k ∨ (w.heap.size ≤ k ∧ k < w'.heap.size)) (es ++ [⟨lv, lv', l.length⟩]) ∧
      Chg (fun k => k = g ∨ L.ownBlock = some k ∨ lv.ownBlock = some k) w w' ∧ Fresh w L L') := by
  obtain ⟨AL, cL, rfl, hcL, hmL⟩ := hL.out.row.slice
  obtain ⟨A, c, rfl, hc, hmc⟩ := hl.out.slice
  have c0 := hb.out.at_ h0
  have c1 := hb.out.at_ h1
  obtain ⟨n2, hn2⟩ : ∃ n2 : Nat, n2 = 2 * es.length := ⟨_, rfl⟩
  obtain ⟨n, hnl⟩ : ∃ n : Nat, n = l.length := ⟨_, rfl⟩
  rw [← hn2] at c0 hcL
  rw [← hnl] at hc hn
  have hm := mk_range es.length
  obtain ⟨m, hmm⟩ : ∃ m : Int, m = mk es.length := ⟨_, rfl⟩
  rw [← hmm] at hm
  obtain ⟨m1, m2⟩ := hm
  have HM := Lib.hid hmm
  have HN2 := Lib.hid hn2
  have HN := Lib.hid hnl
  have q0 : (0 : Int) ≤ (n2 : Int) := by omega
  have q1 : (n2 : Int) ≤ 8796093022208 := by omega
  have hw : 1 + (n2 : Int) / 2 % 120 = m := by
    rw [hmm, hn2]
    unfold mk
    omega
  have hw2 : IntKind.u8.wrap (m + 121) = m + 121 := IntWalk.u8_in _ (by omega)
  clear hmm hn2 hnl
  rw [← HN.out]
  go_enter Try.func54, Try.ntmps54
  go_wp2_with fail
  go_loopw [5] (fun i wr => ∃ k : Nat, k ≤ n ∧ i = .int .i64 k ∧ Hid (OwnB wr (.slice A n c) (fillUp l m k)) ∧ Hid (Chg (fun x => Value.ownBlock (.slice A n c) = some x) w wr)) (fun i _ => n - (intOf i).toNat)
  case atStart => exact ⟨0, Nat.zero_le _, rfl, by have := hl.out; rw [← HN.out] at this; rw [Hid]; simpa [fillUp] using this, Chg.refl _ _⟩
  case round =>
    obtain ⟨k, hk2, rfl, ho, hc2⟩ := hrel
    by_cases hlt : k < n
    · have hll : (fillUp l m k).length = n := (fillUp_length l m k (by rw [← HN.out]; exact hk2)).trans HN.out.symm
      obtain ⟨ga, rfl, hga⟩ := own_some ho.out (by rw [hll]; omega)
      obtain ⟨⟨y, hce⟩, hfr⟩ : (∃ y, wr.cell? ⟨ga, k, none⟩ = some y) ∧ wr.frozen? ⟨ga, k, none⟩ = false := by
        have := Own.cellAt ho.out (i := k) (by rw [hll]; omega)
        exact ⟨⟨_, this.1⟩, this.2⟩
      have HLT := Lib.hid hlt
      have b1 : (0 : Int) ≤ (k : Int) := by omega
      have b2 : (k : Int) < (n : Int) := by omega
      clear hll
      go_wp2_with fail
      go_roundw
      case rel =>
        refine ⟨k + 1, by omega, by go_num, ?_, hc2.out.setCell (p := ⟨ga, k, none⟩) (fun _ => hga) _⟩
        have := ho.out.store (i := k) (by rw [fillUp_length l m k (by rw [← HN.out]; exact hk2), ← HN.out]; exact HLT.out) m
        rw [fillUp_set l m k (by rw [← HN.out]; exact HLT.out)] at this
        exact this
      case measure => simp [intOf]; omega
    · obtain rfl : k = n := by omega
      have hfull : fillUp l m k = List.replicate k m := by rw [HN.out]; exact fillUp_full l m
      have OL := ho.out
      rw [hfull] at OL
      have hlg : Hid (∀ x, Value.ownBlock (.slice A k c) = some x → x ≠ g) := fun x hx e1 => OwnV.type_ne hl.out hb.out he.symm (by rw [← HN.out, hx, e1])
      have hLl : Hid (∀ x, Value.ownBlock (.slice AL (2 * es.length) cL) = some x → Value.ownBlock (.slice A k c) ≠ some x) := fun x hx e1 => hL.out.ne hl.out x (by rw [← HN.out]; exact e1) hx
      have hLg : Hid (∀ x, Value.ownBlock (.slice AL (2 * es.length) cL) = some x → x ≠ g) := fun x hx e1 => hL.out.row.type_ne hb.out he2.symm (by rw [hx, e1])
      have HB1 : Hid (Blk wr g e cur) := hb.out.chg hc2.out (fun e1 => hlg.out g e1 rfl)
      have HL1 : Hid (BookL wr (.slice AL (2 * es.length) cL) bs es) := hL.out.chg hc2.out hLl.out (fun x hx e1 => hap.out x (by rw [← HN.out]; exact e1) hx)
      have HR1 := HL1.out.row
      rw [← HN2.out] at HR1
      have HRH := Lib.hid HR1
      have HO := Lib.hid OL
      clear HR1 OL hfull
      have c3 := HB1.out.at_ h0
      rw [← HN2.out] at c3
      go_wp2_with (at_builtin; go_must (refine wp_appv1 rfl _ _ 61 29 (.slice none 0 0) 24 rfl Try.underlying61 infoL rfl (by decide) (.slice AL n2 cL) n2 (entVals es) (.slice A k c) rfl rfl HRH.out rfl (by omega) ?_); intro v2 w2 k1 k2 k3; obtain ⟨A2, c2, rfl, _, _⟩ := k1.slice; have K1 := Lib.hid k1; have K2 := Lib.hid k2; have K3 := Lib.hid k3; clear k1 k2 k3; have HB2 : Hid (Blk w2 g e cur) := HB1.out.chg K2.out (fun e1 => hLg.out g (by rw [← HN2.out]; exact e1) rfl); have c4 := HB2.out.at_ h0; have f4 := HB2.out.frozen (i := o) (List.getElem?_eq_some_iff.1 h0).1; go_frame)
      obtain ⟨w3, hw3⟩ : ∃ w3, w3 = w2.setCell ⟨g, o, none⟩ (.slice A2 (n2 + 1) c2) := ⟨_, rfl⟩
      rw [← hw3]
      have hA2 : Hid (∀ x, Value.ownBlock (.slice A2 (n2 + 1) c2) = some x → x ≠ g) := fun x hx e1 => K1.out.type_ne HB2.out he2.symm (by rw [hx, e1])
      have HB3 : Hid (Blk w3 g e (cur.set o (.slice A2 (n2 + 1) c2))) := by rw [hw3]; exact HB2.out.set o _
      have HK3 : Hid (OwnV w3 29 1 (.slice A2 (n2 + 1) c2) (n2 + 1) (entVals es ++ [Value.slice A k c])) := by rw [hw3]; exact K1.out.chg ((Chg.refl (· = g) w2).setg o _) (fun x hx e1 => hA2.out x hx e1)
      have C3 : Hid (Chg (fun x => Value.ownBlock (.slice AL n2 cL) = some x ∨ x = g) wr w3) := by rw [hw3]; exact (K2.out.mono (fun _ _ h => .inl h)).setCell (p := ⟨g, o, none⟩) (fun _ => .inr rfl) _
      have HO3 : Hid (OwnB w3 (.slice A k c) (List.replicate k m)) := HO.out.chg C3.out (fun x hx e1 => by
        rcases e1 with e1 | e1
        · exact hLl.out x (by rw [← HN2.out]; exact e1) hx
        · exact hlg.out x hx e1)
      have HE3 : Hid (∀ i (h : i < es.length), EntOk w3 bs i es[i]) := fun i hi => by
        refine (HL1.out.ent i hi).mono' C3.out fun x hx ht e1 => ?_
        obtain ⟨cur', hcu⟩ := ht
        rcases e1 with e1 | e1
        · exact HRH.out.type_ne hcu (by decide) e1
        · exact hcu.type_ne HB1.out he.symm e1
      clear hw3
      go_loopw [1, 6] (fun x i wr2 => ∃ j : Nat, j ≤ 90 ∧ i = .int .i64 j ∧ Hid (OwnB wr2 x (List.replicate k m ++ List.replicate j (m + 121))) ∧ Hid (RdT wr2 (.slice A k c) (List.replicate k m)) ∧ Hid (Chg (fun x => Value.ownBlock (.slice A k c) = some x) w3 wr2) ∧ Hid (Fresh w3 (.slice A k c) x)) (fun _ i _ => 90 - (intOf i).toNat)
      case atStart => exact ⟨0, by omega, rfl, by have := HO3.out; rw [Hid]; simpa using this, HO3.out.rdT, Chg.refl _ _, .inl rfl⟩
      case round =>
        obtain ⟨j, hj, rfl, a1, a2, a3, a4⟩ := hrel
        by_cases hlt2 : j < 90
        · go_wp2_with (at_builtin; go_must (refine wp_app1W rfl _ _ 29 5 .u8 1 rfl Try.underlying29 infoU8 (by decide) u1 _ _ rfl a1 rfl ?b1 ?_); (case b1 => simp; omega); intro v3 w4 k1 k2 k3 k4; have N1 := Lib.hid k1; have N2 := Lib.hid k2; have N3 := Lib.hid k3; have N4 := Lib.hid k4; clear k1 k2 k3 k4)
          go_roundw
          case rel =>
            refine ⟨j + 1, by omega, by go_num, ?_, RdT.old HO3.out a2.out N2.out rfl N3.out, a3.out.app a4.out N3.out, a4.out.trans N4.out a3.out.size⟩
            have := N1.out
            rw [List.append_assoc, ← List.replicate_succ'] at this
            exact this
          case measure => simp [intOf]; omega
        · obtain rfl : j = 90 := by omega
          have C4 : Hid (Chg (fun x => x = g ∨ Value.ownBlock (.slice AL n2 cL) = some x ∨ Value.ownBlock (.slice A k c) = some x) w wr) := (((hc2.out.mono (fun _ _ h => .inr (.inr h))).trans C3.out (fun _ _ h => h.elim (fun h => .inr (.inl h)) .inl)).trans a3.out (fun _ _ h => .inr (.inr h)))
          have HB4 : Hid (Blk wr g e (cur.set o (.slice A2 (n2 + 1) c2))) := HB3.out.chg a3.out (fun e1 => hlg.out g e1 rfl)
          have HK4 : Hid (OwnV wr 29 1 (.slice A2 (n2 + 1) c2) (n2 + 1) (entVals es ++ [Value.slice A k c])) := HK3.out.chg a3.out (fun x hx e1 => by
            obtain ⟨cur', hcu⟩ := OwnV.typed HO3.out x e1
            exact HK3.out.type_ne hcu (by decide) hx)
          have HE4 : Hid (∀ i (h : i < es.length), EntOk wr bs i es[i]) := fun i hi => (HE3.out i hi).chg a3.out (fun x hx e1 => hap.out x (by rw [← HN.out]; exact e1) hx)
          obtain ⟨A9, c9, hu9⟩ : ∃ A9 c9, u1 = .slice A9 (k + 90) c9 := by
            obtain ⟨A9, c9, h9, _⟩ := a1.out.slice
            exact ⟨A9, c9, by rw [h9]; simp⟩
          subst hu9
          have ho1 : o < cur.length := (List.getElem?_eq_some_iff.1 h0).1
          have c5 := HB4.out.at_ (i := o) (List.getElem?_set_self ho1)
          have hwr : Hid (w3.heap.size ≤ wr.heap.size ∧ w.heap.size ≤ w3.heap.size) := ⟨a3.out.size, Nat.le_trans hc2.out.size C3.out.size⟩
          go_wp2_with (at_builtin; go_must (refine wp_appv1 rfl _ _ 61 29 (.slice none 0 0) 24 rfl Try.underlying61 infoL rfl (by decide) (.slice A2 (n2 + 1) c2) (n2 + 1) (entVals es ++ [Value.slice A k c]) (.slice A9 (k + 90) c9) rfl rfl HK4.out rfl (by omega) ?_); intro v2 w5 k1 k2 k3; obtain ⟨A5, c6, rfl, _, _⟩ := k1.slice; have N1 := Lib.hid k1; have N2 := Lib.hid k2; have N3 := Lib.hid k3; clear k1 k2 k3; have HB5 : Hid (Blk w5 g e (cur.set o (.slice A2 (n2 + 1) c2))) := HB4.out.chg N2.out (fun e1 => hA2.out g e1 rfl); have c7 := HB5.out.at_ (i := o) (List.getElem?_set_self ho1); have f7 := HB5.out.frozen (i := o) (by rw [List.length_set]; exact ho1); go_frame)
          go_end0
          have hA5 : Hid (∀ x, Value.ownBlock (.slice A5 (n2 + 1 + 1) c6) = some x → x ≠ g) := fun x hx e1 => N1.out.type_ne HB5.out he2.symm (by rw [hx, e1])
          refine ⟨.slice A5 (n2 + 1 + 1) c6, .slice A9 (k + 90) c9, rfl, ?_, ⟨?_, ?_⟩, ?_, ?_⟩
          · have := HB5.out.set o (.slice A5 (n2 + 1 + 1) c6)
            rw [List.set_set] at this
            exact this
          · have := N1.out.chg ((Chg.refl (· = g) w5).setg o (.slice A5 (n2 + 1 + 1) c6)) (fun x hx e1 => hA5.out x hx e1)
            rw [entVals_snoc, List.length_append, List.length_singleton, show 2 * (es.length + 1) = n2 + 1 + 1 by have := HN2.out; omega]
            exact this
          · intro i hi
            have tail : ∀ {x : Nat}, (∃ cur, Blk wr x 5 cur) → ∀ {S : Nat → Prop}, ¬ (Value.ownBlock (.slice A2 (n2 + 1) c2) = some x ∨ x = g) := fun {x} ht _ e1 => by
              obtain ⟨cur', hcu⟩ := ht
              rcases e1 with e1 | e1
              · exact HK4.out.type_ne hcu (by decide) e1
              · exact hcu.type_ne HB4.out he.symm e1
            have CC : Chg (fun x => Value.ownBlock (.slice A2 (n2 + 1) c2) = some x ∨ x = g) wr (w5.setCell ⟨g, o, none⟩ (.slice A5 (n2 + 1 + 1) c6)) := (N2.out.mono (fun _ _ h => .inl h)).setCell (p := ⟨g, o, none⟩) (fun _ => .inr rfl) _
            by_cases hi2 : i < es.length
            · rw [List.getElem_append_left hi2]
              exact ((HE4.out i hi2).mono' CC (fun x _ ht => tail ht (S := fun _ => True))).mono (fun _ h => .inl h)
            · obtain rfl : i = es.length := by simp at hi; omega
              rw [List.getElem_append_right (Nat.le_refl _)]
              simp only [Nat.sub_self, List.getElem_cons_zero]
              refine ⟨?_, ?_, fun x hx => .inr (.inl hx), fun x hx => ?_⟩
              · rw [← HM.out]
                exact a2.out.chg CC (fun x hx => tail (a2.out.typed x hx) (S := fun _ => True))
              · rw [← HM.out]
                exact a1.out.rdT.chg CC (fun x hx => tail (a1.out.rdT.typed x hx) (S := fun _ => True))
              · rcases a4.out with h | h
                · exact .inr (.inl (h ▸ hx))
                · refine .inr (.inr ⟨?_, ?_⟩)
                  · have := h x hx
                    have := hwr.out
                    omega
                  · have h1 := a1.out.lt x hx
                    have h2 := CC.size
                    omega
          · rw [← HN2.out]
            refine (C4.out.trans N2.out ?_).setCell (p := ⟨g, o, none⟩) (fun _ => .inl rfl) _
            intro x hx e1
            rcases K3.out with h | h
            · exact .inr (.inl (h ▸ e1))
            · have h1 := h x e1
              have h2 := hc2.out.size
              omega
          · rw [← HN2.out]
            exact (K3.out.trans N3.out (Nat.le_trans C3.out.size a3.out.size)).imp id fun h x hx => Nat.le_trans hc2.out.size (h x hx)
end Go.Proofs.Ytlnomadhgoblkaa.Kit
-- The laws' Book: kept.
set_option linter.unusedVariables false
set_option linter.unusedSimpArgs false
namespace Go.Proofs.Ytlnomadhgoblkaa.Kit
open Go.RowKit
theorem entVals_get (es : List Ent) : ∀ (i : Nat) (h : i < es.length), (entVals es)[2 * i]? = some es[i].v ∧ (entVals es)[2 * i + 1]? = some es[i].u := by
  induction es with
  | nil => intro i h; simp at h
  | cons x xs ih =>
    intro i h
    rcases i with _ | i
    · simp [entVals]
    · have := ih i (by simpa using h)
      simp only [entVals, List.flatMap_cons] at this ⊢
      rw [show 2 * (i + 1) = 2 * i + 1 + 1 by omega]
      simpa using this
theorem marks_at (n : Nat) (m : Int) (j : Nat) (h : j < (List.replicate n m ++ List.replicate 90 (m + 121)).length) : (List.replicate n m ++ List.replicate 90 (m + 121))[j] = if j < n then m else m + 121 := by
  split
  · rename_i hj
    rw [List.getElem_append_left (by simpa using hj), List.getElem_replicate]
  · rename_i hj
    rw [List.getElem_append_right (by simpa using hj), List.getElem_replicate]
/-- what stands at place i of the lists -/
theorem lists_at {w : World} {L : Value} {bs : Nat → Prop} {es : List Ent} (h : BookL w L bs es) (i : Nat) (hi : i < 2 * es.length) : ∃ (A A0 : Option Addr) (len c n0 c0 i0 : Nat), (i : Int) - (i : Int) % 2 = (i0 : Int) ∧ i0 ≤ i ∧ n0 ≤ len ∧ len ≤ c ∧ c ≤ maxLen ∧
    (entVals es)[i]? = some (.slice A len c) ∧ (entVals es)[i0]? = some (.slice A0 n0 c0) ∧ ∀ j, j < len → ∃ ad, A = some ad ∧ w.cell? (ad.add j) = some (.int .u8 (if j < n0 then mk (i / 2) else mk (i / 2) + 121)) := by
  have hq : i / 2 < es.length := by omega
  have hg := entVals_get es (i / 2) hq
  have he := h.ent (i / 2) hq
  obtain ⟨A0, c0, h0, hl0, hm0, hr0⟩ := he.v.reads
  obtain ⟨A1, c1, h1, hl1, hm1, hr1⟩ := he.u.reads
  rw [List.length_replicate] at h0
  rw [h0, h1] at hg
  rcases Nat.mod_two_eq_zero_or_one i with hp | hp
  · have hi2 : 2 * (i / 2) = i := by omega
    rw [hi2] at hg
    rw [List.length_replicate] at hl0
    refine ⟨A0, A0, _, c0, _, c0, i, by omega, Nat.le_refl _, Nat.le_refl _, hl0, hm0, hg.1, hg.1, fun j hj => ?_⟩
    obtain ⟨ad, e, hc⟩ := hr0 j (by simpa using hj)
    refine ⟨ad, e, ?_⟩
    rw [hc, if_pos hj, List.getElem_replicate]
  · have hi2 : 2 * (i / 2) + 1 = i := by omega
    rw [hi2] at hg
    refine ⟨A1, A0, _, c1, _, c0, 2 * (i / 2), by omega, by omega, by simp, hl1, hm1, hg.2, hg.1, fun j hj => ?_⟩
    obtain ⟨ad, e, hc⟩ := hr1 j hj
    refine ⟨ad, e, ?_⟩
    rw [hc, marks_at]
set_option maxRecDepth 20000 in
set_option maxHeartbeats 1600000 in
theorem kept (g o : Nat) (e : TypeId) (cur : List Value) (L : Value) (es : List Ent) (bs : Nat → Prop) (w : World)
    (hb : Hid (Blk w g e cur)) (h0 : cur[o]? = some L) (hL : Hid (BookL w L bs es)) (hk : es.length ≤ 4398046511104) :
    Calls Try.prog 49 #[.pointer (some ⟨g, o, none⟩)] w (fun e1 w' => e1 = .returned (.bool true) ∧ w = w') := by
  obtain ⟨AL, cL, rfl, hcL, hmL⟩ := hL.out.row.slice
  have c0 := hb.out.at_ h0
  obtain ⟨n2, hn2⟩ : ∃ n2 : Nat, n2 = 2 * es.length := ⟨_, rfl⟩
  have hr := hL.out.row
  rw [← hn2] at c0 hcL hr
  have HR := Lib.hid hr
  have HN2 := Lib.hid hn2
  have q1 : (n2 : Int) ≤ 8796093022208 := by omega
  clear hn2 hr
  go_enter Try.func49, Try.ntmps49
  go_wp2_with fail
  go_loop [3] (fun i => ∃ k : Nat, k ≤ n2 ∧ i = .int .i64 k) (fun i => n2 - (intOf i).toNat)
  case atStart => exact ⟨0, Nat.zero_le _, rfl⟩
  case round =>
    obtain ⟨k, hk2, rfl⟩ := hrel
    by_cases hlt : k < n2
    · obtain ⟨A, A0, len, c, n0, d0, i0, hi0, hile, hn0, hlc, hcm, g1, g2, hcell⟩ := lists_at hL.out k (by have := HN2.out; omega)
      obtain ⟨ad, rfl, d1, _⟩ := HR.out.cells _ _ _ rfl _ _ g1
      obtain ⟨ad', e', d2, _⟩ := HR.out.cells _ _ _ rfl _ _ g2
      injection e' with e'
      subst e'
      have hm := mk_range (k / 2)
      have hw : 1 + (k : Int) / 2 % 120 = mk (k / 2) := by unfold mk; omega
      obtain ⟨m, hmm⟩ : ∃ m : Int, m = mk (k / 2) := ⟨_, rfl⟩
      rw [← hmm] at hm hw hcell
      obtain ⟨m1, m2⟩ := hm
      have hw2 : IntKind.u8.wrap (m + 121) = m + 121 := IntWalk.u8_in _ (by omega)
      have HC := Lib.hid hcell
      have b1 : (0 : Int) ≤ (k : Int) := by omega
      have b2 : (k : Int) < (n2 : Int) := by omega
      have b3 : (i0 : Int) < (n2 : Int) := by omega
      have b4 : (len : Int) ≤ 9223372036854775807 := by simp only [maxLen] at hcm; omega
      clear hmm hcell g1 g2
      go_wp2_with fail
      go_loop [6] (fun j => ∃ q : Nat, q ≤ len ∧ j = .int .i64 q) (fun j => len - (intOf j).toNat)
      case atStart => exact ⟨0, Nat.zero_le _, rfl⟩
      case round =>
        obtain ⟨q, hq, rfl⟩ := hrel
        by_cases hql : q < len
        · obtain ⟨au, rfl, hcu⟩ := HC.out q hql
          have b5 : (0 : Int) ≤ (q : Int) := by omega
          have b6 : (q : Int) < (len : Int) := by omega
          by_cases hqn : q < n0
          · rw [if_pos hqn] at hcu
            have b7 : (q : Int) < (n0 : Int) := by omega
            go_wp2_with fail
            go_round
            case rel => exact ⟨q + 1, by omega, by go_num⟩
            case measure => simp [intOf]; omega
          · rw [if_neg hqn] at hcu
            have b7 : ¬ (q : Int) < (n0 : Int) := by omega
            have b8 : (n0 : Int) ≤ (q : Int) := by omega
            go_wp2_with fail
            go_round
            case rel => exact ⟨q + 1, by omega, by go_num⟩
            case measure => simp [intOf]; omega
        · obtain rfl : q = len := by omega
          go_wp2_with fail
          go_round
          case rel => exact ⟨k + 1, by omega, by go_num⟩
          case measure => simp [intOf]; omega
    · obtain rfl : k = n2 := by omega
      go_wp2_with fail
      go_ret
      exact ⟨rfl, rfl⟩
end Go.Proofs.Ytlnomadhgoblkaa.Kit
