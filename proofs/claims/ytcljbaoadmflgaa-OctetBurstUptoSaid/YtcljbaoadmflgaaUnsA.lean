/- Unseal: the walks of the program's begins, number, sections. -/
import Derived.Test.YtcljbaoadmflgaaProg
import Derived.Test.YtcljbaoadmflgaaUns
import Derived.Test.YtcljbaoadmflgaaCrc
import Derived.Test.YtcljbaoadmflgaaOctT
import Derived.Test.YtcljbaoadmflgaaOctL1
import Derived.Deep.QuietTactic
import Derived.BigQuiet
set_option linter.unusedVariables false
set_option linter.unusedSimpArgs false
namespace Go.Proofs.Ytcljbaoadmflgaa.Kit
open Go.RowKit
theorem beginsP_short {m l : List Int} {f i : Nat} (h : l.length ≤ i) : beginsP m l (f + 1) i = ((i : Int), 41) := by rw [beginsP, if_pos h]
theorem beginsP_bad {m l : List Int} {f i : Nat} (h : i < l.length) (hm : i < m.length) (he : l[i] ≠ m[i]) : beginsP m l (f + 1) i = ((i : Int), 43) := by
  rw [beginsP, if_neg (by omega), if_pos (by rw [List.getElem?_eq_getElem h, List.getElem?_eq_getElem hm]; simpa using he)]
theorem beginsP_next {m l : List Int} {f i : Nat} (h : i < l.length) (hm : i < m.length) (he : l[i] = m[i]) : beginsP m l (f + 1) i = beginsP m l f (i + 1) := by
  rw [beginsP, if_neg (by omega), if_neg (by rw [List.getElem?_eq_getElem h, List.getElem?_eq_getElem hm, he]; simp)]
theorem bytesOf_get (s : ByteArray) (k : Nat) (h : k < s.size) : (bytesOf s)[k]'(by rw [bytesOf_length]; exact h) = (s[k].toNat : Int) := by
  simp [bytesOf]
  rfl
set_option maxHeartbeats 1600000 in
theorem begins (s : ByteArray) (A : Option Addr) (n c : Nat) (l : List Int) (w : World) {p er : Int} (hs : s.size = 8) (HN : Hid (n = l.length)) (hnc : n ≤ c) (hl : Hid (l.length ≤ 140737488355328)) (hr : Hid (Rd w .u8 A l)) (hP : Hid (beginsP (bytesOf s) l 8 0 = (p, er))) :
    Calls Try.prog 67 #[.string s, .slice A n c] w fun e w' => e = .returned (.tuple #[.int .i64 p, .int .i64 er]) ∧ ∃ q, w' = w.drewN q := by
  have hn1 : n ≤ 140737488355328 := by rw [HN.out]; exact hl.out
  have HS := Lib.hid hs
  go_enter Try.func67, Try.ntmps67
  go_wp2_with fail
  go_loopw [7] (fun i wr => ∃ k : Nat, k ≤ 8 ∧ i = .int .i64 k ∧ Hid (beginsP (bytesOf s) l 8 0 = beginsP (bytesOf s) l (8 - k) k) ∧ Hid (∃ q, wr = w.drewN q)) (fun i _ => 8 - (intOf i).toNat)
  case atStart => exact ⟨0, by omega, rfl, rfl, 0, rfl⟩
  case round =>
    obtain ⟨k, hk, rfl, BK, HW⟩ := hrel
    by_cases hlt : k < 8
    · by_cases hsh : n ≤ k
      · have hR : Hid ((p, er) = ((k : Int), 41)) := by
          rw [Hid, ← hP.out, BK.out, show 8 - k = (7 - k) + 1 by omega, beginsP_short (by rw [← HN.out]; exact hsh)]
        go_wp2_with fail
        go_ret2
        obtain ⟨q, rfl⟩ := HW.out
        obtain ⟨h1, h2⟩ := Prod.mk.inj hR.out
        subst h1 h2
        exact ⟨rfl, q, rfl⟩
      · have hkl : k < l.length := by rw [← HN.out]; omega
        obtain ⟨ad, rfl, hc⟩ := hr.out k hkl
        have hks : k < s.size := by omega
        have hc' : wr.cell? (ad.add k) = some (.int .u8 l[k]) := by
          obtain ⟨q, hq⟩ := HW.out
          rw [hq]
          exact hc
        have b1 : (0 : Int) ≤ (k : Int) := by omega
        have b2 : (k : Int) < (n : Int) := by omega
        have b3 : (k : Int) < (s.size : Int) := by omega
        have hkb : k < (bytesOf s).length := by rw [bytesOf_length]; exact hks
        have hg := bytesOf_get s k hks
        by_cases he : l[k] = (s[k].toNat : Int)
        · have hne : (l[k] != (s[k].toNat : Int)) = false := by simp [he]
          have hR : Hid (beginsP (bytesOf s) l (8 - k) k = beginsP (bytesOf s) l (8 - (k + 1)) (k + 1)) := by
            rw [Hid, show 8 - k = (8 - (k + 1)) + 1 by omega, beginsP_next hkl hkb (by rw [hg, he])]
          clear hg he hc
          go_wp2_with fail
          go_quiet (fail)
          go_wp2_with fail
          go_roundw
          case rel => exact ⟨k + 1, by omega, by go_num, BK.out.trans hR.out, by
            obtain ⟨q, rfl⟩ := HW.out
            exact ⟨_, World.drewN_drewN _ _ _⟩⟩
          case measure => simp [intOf]; omega
        · have hne : (l[k] != (s[k].toNat : Int)) = true := by simp [he]
          have hR : Hid ((p, er) = ((k : Int), 43)) := by
            rw [Hid, ← hP.out, BK.out, show 8 - k = (7 - k) + 1 by omega, beginsP_bad hkl hkb (by rw [hg]; exact he)]
          clear hg he hc
          go_wp2_with fail
          go_quiet (fail)
          go_wp2_with fail
          go_ret2
          obtain ⟨q, rfl⟩ := HW.out
          obtain ⟨h1, h2⟩ := Prod.mk.inj hR.out
          subst h1 h2
          exact ⟨rfl, _, World.drewN_drewN _ _ _⟩
    · obtain rfl : k = 8 := by omega
      have hR : Hid ((p, er) = (0, 0)) := by
        rw [Hid, ← hP.out, BK.out]
        rfl
      go_wp2_with fail
      go_ret2
      obtain ⟨q, rfl⟩ := HW.out
      obtain ⟨h1, h2⟩ := Prod.mk.inj hR.out
      subst h1 h2
      exact ⟨rfl, q, rfl⟩
set_option maxHeartbeats 800000 in
theorem number {g : Nat} {v : Value} {l : List Int} {at_ a2 : Nat} {w : World} {x p er : Int} {k : Nat} (hu : Hid (urd (l.drop at_) 18446744073709551615 = (x, k, er))) (ha : Hid (at_ + k = a2)) (hp : Hid ((if er = 41 then (l.length : Int) else (at_ : Int)) = p)) (h : Hid (Rdr w g v l at_)) :
    Calls Try.prog 75 #[.pointer (some ⟨g, 0, none⟩)] w fun e w' => e = .returned (.tuple #[.int .u64 x, .int .i64 p, .int .i64 er]) ∧ Rdr w' g v l a2 ∧ Chg (· = g) w w' := by
  have h1 := h.out.blk.at_ (i := 1) rfl
  have h2 := h.out.le
  have h3 := h.out.bound
  go_enter Try.func75, Try.ntmps75
  go_wp2_with fail
  refine (uintTo hu ha h).mono ?_
  rintro e w1 ⟨rfl, k1, k2⟩
  have K1 := Lib.hid k1; have K2 := Lib.hid k2
  obtain ⟨A, c, hv, hc, _⟩ := k1.own.slice
  have h0 := k1.blk.at_ (i := 0) rfl
  rw [hv] at h0
  clear k1 k2 hv
  by_cases h41 : er = 41
  · have hp' := hp.out
    rw [if_pos h41] at hp'
    subst h41 hp'
    clear hp
    go_wp2_with fail
    go_ret3
    exact ⟨rfl, K1.out, K2.out⟩
  · have hp' := hp.out
    rw [if_neg h41] at hp'
    subst hp'
    clear hp
    go_wp2_with fail
    go_ret3
    exact ⟨rfl, K1.out, K2.out⟩
end Go.Proofs.Ytcljbaoadmflgaa.Kit
