/- The journal's laws: words that they share. -/
import Derived.Test.YtlnomadhgoblkaaProg
import Derived.Test.YtlnomadhgoblkaaJf
import Derived.Test.YtlnomadhgoblkaaPlainJ2
set_option linter.unusedVariables false
set_option linter.unusedSimpArgs false
namespace Go.Proofs.Ytlnomadhgoblkaa.Kit
open Go.RowKit
theorem jends_get (ls : List SecV) (k : Nat) (h : k < (jends ls).length) : (jends ls)[k] = ((jnlBytes (ls.take (k + 1))).length : Int) := by simp [jends]
/-- an end, read -/
theorem ends_cell {w : World} {A : Option Addr} {n c : Nat} {ls : List SecV} (h : Own w 3 .i64 (.slice A n c) (jends ls)) (k : Nat) (hk : k < ls.length) : ∃ ad, A = some ad ∧ w.cell? (ad.add k) = some (.int .i64 ((jnlBytes (ls.take (k + 1))).length : Int)) := by
  have hk' : k < (jends ls).length := by rw [jends_length]; exact hk
  have hn : n = (jends ls).length := by
    obtain ⟨_, _, hv, _⟩ := h.slice
    injection hv
  obtain ⟨ad, e, hc⟩ := h.rd (by rw [hn]) k hk'
  exact ⟨ad, e, by rw [hc, jends_get]⟩
/-- what is known behind filled: of every world behind it -/
structure Filled (w1 : World) (gj : Nat) (D : Nat → Prop) (A : Option Addr) (n c : Nat) (ls : List SecV) : Prop where
  len : n = ls.length
  cap : n ≤ c
  mx : c ≤ maxLen
  small : (jnlBytes ls).length ≤ 268435456
  good : ∀ x ∈ ls, GoodRec x
  nb : n ≤ 33554432
  jn : Jn w1 D gj ls
  rd : RdSecs w1 A ls
theorem Filled.old {w1 w : World} {gj : Nat} {D : Nat → Prop} {A : Option Addr} {n c : Nat} {ls : List SecV} (h : Filled w1 gj D A n c ls) (k : Chg (fun _ => False) w1 w) : Filled w gj D A n c ls :=
  ⟨h.len, h.cap, h.mx, h.small, h.good, h.nb, h.jn.chg0 k, h.rd.below k.done⟩
theorem filledC {A : Option Addr} {n c : Nat} {l : List SecV} {w : World} (HN : Hid (n = l.length)) (hnb : n ≤ 4398046511104) (hr : Hid (RdSecs w A l)) (hsz : Hid (∀ x ∈ l, x.body.length ≤ 140737488351232)) :
    Calls Try.prog 27 #[.slice A n c] w fun e w' => ∃ gj D A' n' c' ls, e = .returned (.tuple #[.pointer (some ⟨gj, 0, none⟩), .slice A' n' c']) ∧ Filled w' gj D A' n' c' ls ∧ (∀ y, D y → w.heap.size ≤ y) ∧ w.heap.size ≤ gj ∧ Chg (fun _ => False) w w' := by
  refine (filledT HN hnb hr hsz).mono ?_
  rintro e w' ⟨gj, D, v, bs, rfl, h, hg⟩
  obtain ⟨A', c', hv, hc, hm⟩ := h.row.row.slice
  have hl := jnlBytes_len (jfill l)
  have hs := h.small
  have hrow := h.row
  rw [hv] at hrow
  refine ⟨gj, D, A', _, c', jfill l, by rw [hv], ⟨rfl, hc, hm, hs, fun x hx => ⟨(h.ok x hx).1, (h.ok x hx).2.1, (h.ok x hx).2.2, h.row.byt x hx⟩, by omega, h.jn, hrow.secs h.chg⟩, h.new, hg, h.chg⟩
theorem holdsC {gj gk : Nat} {D Dk : Nat → Prop} {A : Option Addr} {n c k : Nat} {ls ms : List SecV} {w : World} (h : Hid (Filled w gj D A n c ls)) (hk : k ≤ n) (hj : Hid (Jn w Dk gk ms)) (hms : Hid (ms = ls.take k)) :
    Calls Try.prog 28 #[.pointer (some ⟨gk, 0, none⟩), .slice A n c, .int .i64 k] w fun e w' => e = .returned (.bool true) ∧ Chg (fun _ => False) w w' :=
  holdsT hj h.out.rd h.out.len hms hk (by have := h.out.nb; omega) (fun x hx => (h.out.good x (List.mem_of_mem_take (by rw [← hms.out]; exact hx))).2.2.1)
theorem jopenIs {A : Option Addr} {n c m : Nat} {l : List Int} {ls : List SecV} {w : World} (hR : Hid (jopenRes l = (some ls, m, 0))) (HN : Hid (n = l.length)) (hnc : n ≤ c) (hcm : c ≤ maxLen) (hb : Hid (Byt l)) (hr : Hid (Rd w .u8 A l)) :
    Calls Try.prog 25 #[.slice A n c] w fun e w' => ∃ g D, e = .returned (.tuple #[.pointer (some ⟨g, 0, none⟩), .int .i64 m, .int .i64 0]) ∧ Jn w' D g ls ∧ Chg (fun _ => False) w w' ∧ (∀ y, D y → w.heap.size ≤ y) ∧ w.heap.size ≤ g := by
  refine (jopen HN hnc hcm hb hr).mono ?_
  rw [hR.out]
  rintro e w' ⟨g, D, rfl, h1, h2, h3, h4⟩
  exact ⟨g, D, rfl, h1, h4, h2, h3⟩
theorem jbytesC {D : Nat → Prop} {g : Nat} {l : List SecV} {w : World} (hl : Hid ((jnlBytes l).length ≤ 268435456)) (hj : Hid (Jn w D g l)) :
    Calls Try.prog 20 #[.pointer (some ⟨g, 0, none⟩)] w fun e w' => ∃ A n c, e = .returned (.slice A n c) ∧ Made w w' A n c (jnlBytes l) ∧ n ≤ 268435456 ∧ c ≤ maxLen :=
  (jbytes D g l w (by have := hl.out; rw [Hid]; omega) hj).mono fun e w' ⟨A, n, c, he, m⟩ => ⟨A, n, c, he, m, by rw [m.len]; exact hl.out, by
    obtain ⟨_, _, hv, _, h⟩ := m.own.slice
    injection hv with _ _ hc
    rw [hc]
    exact h⟩
end Go.Proofs.Ytlnomadhgoblkaa.Kit
