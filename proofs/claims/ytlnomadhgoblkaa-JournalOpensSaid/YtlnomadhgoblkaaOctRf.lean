/- The document's reader: ahead. -/
import Derived.Test.YtlnomadhgoblkaaProg
import Derived.Test.YtlnomadhgoblkaaOctLaw
import Derived.Test.YtlnomadhgoblkaaPlainV
import Derived.Test.YtlnomadhgoblkaaOctI
set_option linter.unusedVariables false
set_option linter.unusedSimpArgs false
namespace Go.Proofs.Ytlnomadhgoblkaa.Kit
open Go.RowKit
/-- the number that the document reckons of the first n + 1 bytes -/
def wx (l : List Int) (n : Nat) : Int := val (l.take (n + 1)) % 18446744073709551616
theorem wx_range (l : List Int) (n : Nat) : 0 ≤ wx l n ∧ wx l n < 18446744073709551616 := by
  unfold wx
  omega
theorem ahead_ok {l : List Int} {n : Nat} {limit : Int} (hb : Byt l) (he : Ends l n) (hn : n < 10) :
    urd l limit = if vb (wx l n).toNat = l.take (n + 1) ∧ wx l n ≤ limit then (wx l n, n + 1, 0) else (0, 0, 42) := by
  have hr := wx_range l n
  have hlt := he.lt
  by_cases hv : vb (wx l n).toNat = l.take (n + 1)
  · have hl : l = vb (wx l n).toNat ++ l.drop (n + 1) := by rw [hv, List.take_append_drop]
    have hlen : (vb (wx l n).toNat).length = n + 1 := by rw [hv, List.length_take]; omega
    have h1 := vlp_vb (n := (wx l n).toNat) (by omega) (rest := l.drop (n + 1)) (fun z hz => hb z (List.mem_of_mem_drop hz))
    rw [← hl, hlen, Int.toNat_of_nonneg hr.1] at h1
    unfold urd
    rw [h1]
    by_cases hx : wx l n ≤ limit
    · have hx' : ¬ limit < wx l n := by omega
      simp [hv, hx, hx']
    · have hx' : limit < wx l n := by omega
      simp [hx, hx']
  · rw [if_neg (fun h => hv h.1)]
    rcases vlp_char l hb 10 0 (by omega) (by omega) (fun j _ hj => by omega) 0 (fun _ => by simp [val]) with ⟨m, hm, _, hz, h9, h'⟩ | ⟨m, hm, _, hbad, h'⟩ | ⟨hbig, h'⟩
    · exfalso
      obtain rfl := hm.unique he
      have h2 := vlp_form hb h'
      have h3 := vlp_range 10 l 0 0
      rw [h'] at h3
      simp only at h3
      refine hv ?_
      have e : wx l m = val (l.take (m + 1)) := by unfold wx; omega
      rw [e, ← h2.1]
      congr 1
    · unfold urd
      rw [h']
      simp
    · exfalso
      have := hbig n hlt hn
      have := he.small hlt
      omega
theorem ahead_none {l : List Int} {limit : Int} (hb : Byt l) (hbig : ∀ j, (h : j < l.length) → j < 10 → 127 < l[j]) : urd l limit = (0, 0, if l.length < 10 then 41 else 42) := by
  rcases vlp_char l hb 10 0 (by omega) (by omega) (fun j _ hj => by omega) 0 (fun _ => by simp [val]) with ⟨m, hm, h10, hz, h9, h'⟩ | ⟨m, hm, h10, hbad, h'⟩ | ⟨_, h'⟩
  · have := hbig m hm.lt h10
    have := hm.small hm.lt
    omega
  · have := hbig m hm.lt h10
    have := hm.small hm.lt
    omega
  · unfold urd
    rw [h']
    split <;> simp
theorem val_drop (l : List Int) (i : Nat) (h : i < l.length) : val (l.drop i) = l[i] % 128 + 128 * val (l.drop (i + 1)) := by
  rw [List.drop_eq_getElem_cons h, val]
theorem wx_step (l : List Int) (n i : Nat) (hi : i ≤ n) (h : i < l.length) : IntKind.u64.wrap (IntKind.u64.wrap (val ((l.take (n + 1)).drop (i + 1)) % 18446744073709551616 * 128) + l[i] % 128) = val ((l.take (n + 1)).drop i) % 18446744073709551616 := by
  have hl : i < (l.take (n + 1)).length := by rw [List.length_take]; omega
  have e := val_drop (l.take (n + 1)) i hl
  rw [List.getElem_take] at e
  rw [e, IntKind.wrap_u64, IntKind.wrap_u64]
  omega
set_option maxRecDepth 20000 in
set_option maxHeartbeats 1600000 in
theorem ahead (A : Option Addr) (c n : Nat) (l : List Int) (limit : Int) (w : World) (hn : Hid (n = l.length)) (hb : Hid (Byt l)) (hl : Hid (l.length ≤ 140737488355328)) (hr : Hid (Rd w .u8 A l)) :
    Calls Try.prog 91 #[.slice A n c, .int .u64 limit] w fun e w' => e = .returned (.tuple #[.int .u64 (urd l limit).1, .int .i64 (urd l limit).2.1, .int .i64 (urd l limit).2.2]) ∧ Chg (fun _ => False) w w' := by
  have hl' : n ≤ 140737488355328 := by have := hl.out; rw [← hn.out] at this; exact this
  go_enter Try.func91, Try.ntmps91
  go_wp2
  go_loop [7] (fun i => ∃ k : Nat, k ≤ n ∧ k ≤ 10 ∧ i = .int .i64 k ∧ Hid (∀ j, (h : j < l.length) → j < k → 127 < l[j])) (fun i => n - (intOf i).toNat)
  case atStart => exact ⟨0, by omega, by omega, rfl, fun j _ h => absurd h (by omega)⟩
  case round =>
    obtain ⟨k, hk, hk10, rfl, hbig⟩ := hrel
    by_cases hkn : k = n
    · subst hkn
      have hs := ahead_none (limit := limit) hb.out (fun j h hj => hbig.out j h (by rw [hn.out]; exact h))
      rw [← hn.out] at hs
      by_cases h10 : k = 10
      · subst h10
        have HS := Lib.hid hs
        clear hs
        go_wp2
        go_ret3
        exact ⟨by rw [HS.out]; rfl, Chg.refl _ _⟩
      · have h10' : ((k : Int) == 10) = false := by simp; omega
        rw [if_pos (by omega)] at hs
        have HS := Lib.hid hs
        clear hs
        go_wp2
        go_ret3
        exact ⟨by rw [HS.out]; rfl, Chg.refl _ _⟩
    · by_cases hk9 : k = 10
      · subst hk9
        have hs := ahead_none (limit := limit) hb.out (fun j h hj => hbig.out j h hj)
        rw [← hn.out, if_neg (by omega)] at hs
        have HS := Lib.hid hs
        clear hs
        have hlt : 10 < n := by omega
        go_wp2
        go_ret3
        exact ⟨by rw [HS.out]; rfl, Chg.refl _ _⟩
      · have hkl : k < l.length := by rw [← hn.out]; omega
        obtain ⟨ad, rfl, hc⟩ := hr.out k hkl
        have hkn' : k < n := by omega
        have hk9' : k < 10 := by omega
        have HKL := Lib.hid hkl
        by_cases hbg : 127 < l[k]
        · have HBG := Lib.hid hbg
          generalize hv : l[k] = v at hc hbg
          have h128 : decide ((128 : Int) ≤ v) = true := by simp; omega
          have h128' : (128 : Int) ≤ v := by omega
          clear hkl hv hbg
          go_wp2
          go_round
          case rel => exact ⟨k + 1, by omega, by omega, by go_num, fun j h hj => by
            by_cases e : j = k
            · subst e
              exact HBG.out
            · exact hbig.out j h (by omega)⟩
          case measure => simp [intOf]; omega
        · have he : Ends l k := ⟨hkl, fun _ => by omega, hbig.out⟩
          have HE := Lib.hid he
          generalize hv : l[k] = v at hc hbg
          have h128 : decide ((128 : Int) ≤ v) = false := by simp; omega
          have h128' : ¬ (128 : Int) ≤ v := by omega
          have h10' : ((k : Int) == 10) = false := by simp; omega
          have hkn'' : ((k : Int) == (n : Int)) = false := by simp; omega
          clear hkl hv he
          go_wp2
          have HX := Lib.hid (wx_range l k)
          go_loop [8, 9] (fun x q => ∃ i : Nat, i ≤ k + 1 ∧ q = .int .i64 ((i : Int) - 1) ∧ Hid (x = .int .u64 (val ((l.take (k + 1)).drop i) % 18446744073709551616))) (fun _ q => (intOf q + 1).toNat)
          case atStart => exact ⟨k + 1, by omega, by go_num, by rw [Hid, List.drop_of_length_le (by rw [List.length_take]; omega)]; rfl⟩
          case round =>
            obtain ⟨i, hi, rfl, hx⟩ := hrel
            have hx := hx.out
            subst hx
            by_cases hi0 : i = 0
            · subst hi0
              have e0 : val ((l.take (k + 1)).drop 0) % 18446744073709551616 = wx l k := by rw [List.drop_zero]; rfl
              rw [e0]
              clear e0
              generalize hX : wx l k = X at HX
              have HXX := Lib.hid hX
              clear hX
              obtain ⟨x0, x1⟩ := HX.out
              go_wp2_with fail
              refine (varintRef X w x0 (by omega)).mono ?_
              rintro e w1 ⟨A1, n1, c1, rfl, m1⟩
              have M1 := Lib.hid m1
              clear m1
              have hok := ahead_ok (limit := limit) hb.out HE.out hk9'
              rw [HXX.out] at hok
              have HO := Lib.hid hok
              clear hok
              have hML := M1.out.len
              by_cases hlen : n1 = k + 1
              · have HLEN := Lib.hid hlen
                by_cases hlim : limit < X
                · have HLIM := Lib.hid hlim
                  have ht : ((n1 : Int) != (k : Int) + 1) = false := by simp; omega
                  clear hlen hML
                  go_wp2_with fail
                  go_ret3
                  exact ⟨by rw [HO.out, if_neg (fun h => by have := HLIM.out; omega)]; rfl, M1.out.chg⟩
                · have HLIM := Lib.hid hlim
                  have ht : ((n1 : Int) != (k : Int) + 1) = false := by simp; omega
                  have ht2 : decide (limit < X) = false := by simp; omega
                  have hn1 : n1 ≤ n := by omega
                  have HML := Lib.hid hML
                  have R1 : Hid (Rd w1 .u8 A1 (vb X.toNat)) := M1.out.rd
                  have R2 : Hid (Rd w1 .u8 (some ad) l) := hr.out.below M1.out.chg.done
                  clear hlen hML
                  go_wp2_with fail
                  go_loopw [11] (fun i wr => ∃ j : Nat, j ≤ n1 ∧ i = .int .i64 j ∧ Hid ((vb X.toNat).take j = l.take j) ∧ ∃ q, wr = w1.drewN q) (fun i _ => n1 - (intOf i).toNat)
                  case atStart => exact ⟨0, Nat.zero_le _, rfl, rfl, 0, rfl⟩
                  case round =>
                    obtain ⟨j, hj, rfl, ht3, q, rfl⟩ := hrel
                    by_cases hjn : j < n1
                    · have g1 : j < (vb X.toNat).length := by rw [← HML.out]; exact hjn
                      have g2 : j < l.length := by rw [← hn.out]; omega
                      obtain ⟨a1, rfl, hc1⟩ := R1.out j g1
                      obtain ⟨a2, e2, hc3⟩ := R2.out j g2
                      injection e2 with e2
                      subst e2
                      have d1 : (0 : Int) ≤ (j : Int) := by omega
                      have d2 : (j : Int) < (n1 : Int) := by omega
                      have d3 : (j : Int) < (n : Int) := by omega
                      have G1 := Lib.hid g1
                      have G2 := Lib.hid g2
                      by_cases heq : (vb X.toNat)[j] = l[j]
                      · have HEQ := Lib.hid heq
                        have heq' : ((vb X.toNat)[j] != l[j]) = false := by simp [heq]
                        generalize (vb X.toNat)[j] = p1 at hc1 heq'
                        generalize l[j] = p2 at hc3 heq'
                        clear heq g1 g2
                        go_wp2_with fail
                        go_quiet (fail)
                        go_wp2
                        go_roundw
                        case rel => exact ⟨j + 1, by omega, by go_num, take_next ht3.out G1.out G2.out HEQ.out, _, rfl⟩
                        case measure => simp [intOf]; omega
                      · have HEQ := Lib.hid heq
                        have heq' : ((vb X.toNat)[j] != l[j]) = true := by simp [heq]
                        generalize (vb X.toNat)[j] = p1 at hc1 heq'
                        generalize l[j] = p2 at hc3 heq'
                        clear heq g1 g2
                        go_wp2_with fail
                        go_quiet (fail)
                        go_wp2
                        go_ret3
                        refine ⟨?_, (M1.out.chg.drewN _).drewN _⟩
                        rw [HO.out, if_neg]
                        · rfl
                        · rintro ⟨h, _⟩
                          refine HEQ.out ?_
                          have : (vb X.toNat)[j]'G1.out = (l.take (k + 1))[j]'(by rw [← h]; exact G1.out) := by congr 1
                          exact this.trans List.getElem_take
                    · obtain rfl : j = n1 := by omega
                      go_wp2_with fail
                      go_ret3
                      refine ⟨?_, M1.out.chg.drewN _⟩
                      have h3 := ht3.out
                      rw [List.take_of_length_le (by rw [← HML.out]; exact Nat.le_refl _), HLEN.out] at h3
                      rw [HO.out, if_pos ⟨h3, by have := HLIM.out; omega⟩]
                      rfl
              · have ht : ((n1 : Int) != (k : Int) + 1) = true := by simp; omega
                have HKL2 := HKL.out
                have HNE : Hid (vb X.toNat ≠ l.take (k + 1)) := fun h => by
                  have := congrArg List.length h
                  rw [List.length_take] at this
                  omega
                clear hlen hML
                go_wp2_with fail
                go_ret3
                exact ⟨by rw [HO.out, if_neg (fun h => HNE.out h.1)]; rfl, M1.out.chg⟩
            · obtain ⟨i, rfl⟩ : ∃ j, i = j + 1 := ⟨i - 1, by omega⟩
              have hil : i < l.length := by have := HKL.out; omega
              obtain ⟨ad2, e2, hc2⟩ := hr.out i hil
              injection e2 with e2
              subst e2
              have hst := wx_step l k i (by omega) hil
              have hby := hb.out l[i] (List.getElem_mem hil)
              generalize l[i] = u at hc2 hst hby
              obtain ⟨u0, u1⟩ := hby
              have HST := Lib.hid hst
              have hq : ((i + 1 : Nat) : Int) - 1 = (i : Int) := by omega
              rw [hq]
              have b1 : (0 : Int) ≤ (i : Int) := by omega
              have b2 : (i : Int) < (n : Int) := by omega
              have E1 : IntKind.u64.wrap (u % 128) = u % 128 := IntWalk.u64_in _ (by omega)
              generalize val ((l.take (k + 1)).drop (i + 1)) % 18446744073709551616 = X at HST
              clear hst
              go_wp2
              go_round
              case rel => exact ⟨i, by omega, by go_num, by rw [Hid, ← HST.out]⟩
              case measure => simp [intOf]
end Go.Proofs.Ytlnomadhgoblkaa.Kit
