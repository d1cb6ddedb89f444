/- AppendUint, AppendInt, AppendText. -/
import Derived.Test.YtlnomadhgoblkaaProg
import Derived.Test.YtlnomadhgoblkaaKit
import Derived.Test.YtlnomadhgoblkaaPlainO
import Derived.Lib.Hide
set_option linter.unusedVariables false
set_option linter.unusedSimpArgs false
set_option linter.unnecessarySimpa false
namespace Go.Proofs.Ytlnomadhgoblkaa.Kit
open Go.RowKit
theorem infoU8 : (Try.prog.info? 5).map (fun i => (i.zero, i.size, i.bytes)) = some (some (.int .u8 0), 1, 1) := by kernel_rfl
abbrev OwnB (w : World) (v : Value) (l : List Int) : Prop := Own w 5 .u8 v l
set_option maxHeartbeats 400000 in
theorem appendUint (v : Value) (l : List Int) (x : Int) (w : World) (hx : 0 ≤ x) (hown : OwnB w v l) (hlen : l.length + (vb x.toNat).length ≤ 140737488355328) :
    Calls Try.prog 21 #[v, .int .u64 x] w fun e w' => ∃ v', e = .returned v' ∧ OwnB w' v' (l ++ vb x.toNat) ∧ (∀ A n c, v = .slice A n c → Rd w' .u8 A l) ∧ Chg (fun g => v.ownBlock = some g) w w' ∧ Fresh w v v' := by
  have HL := Lib.hid hlen
  clear hlen
  have HO := Lib.hid hown
  clear hown
  go_enter Try.func21, Try.ntmps21
  go_wp2
  go_loopw [0, 1] (fun b q wr => ∃ (pre : List Int) (y : Int), q = .int .u64 y ∧ 0 ≤ y ∧ Hid (pre ++ vb y.toNat = l ++ vb x.toNat) ∧ Hid (∃ t, pre = l ++ t) ∧ Hid (OwnB wr b pre) ∧ Hid (∀ A n c, v = .slice A n c → Rd wr .u8 A l) ∧ Hid (Chg (fun g => v.ownBlock = some g) w wr) ∧ Hid (Fresh w v b)) (fun _ q _ => (intOf q).toNat)
  case atStart => exact ⟨l, x, rfl, hx, rfl, ⟨[], by simp⟩, HO.out, fun A n c h => by { obtain ⟨A', c', h', _, hr⟩ := HO.out.reads; rw [h'] at h; injection h with h _ _; exact h ▸ hr }, Chg.refl _ _, .inl rfl⟩
  case round =>
    obtain ⟨pre, y, rfl, hy, h1, ht, h2, h3, h4, h5⟩ := hrel
    by_cases hlt : 127 < y
    · go_wp2_with (at_builtin; go_must (refine wp_app1 rfl _ _ 29 5 .u8 1 rfl Try.underlying29 infoU8 (by decide) u0 pre _ rfl h2 rfl ?b1 ?_); (case b1 => have h := congrArg List.length h1.out; have := vb_pos y.toNat; simp at h; have := HL.out; omega); intro v' w1 k1 k2 k3 k4; have K1 := Lib.hid k1; have K2 := Lib.hid k2; have K3 := Lib.hid k3; have K4 := Lib.hid k4; clear k1 k2 k3 k4)
      go_roundw
      case rel =>
        obtain ⟨t, ht⟩ := ht.out
        refine ⟨_, y / 128, rfl, by omega, ?_, ⟨t ++ [_], by rw [ht, List.append_assoc]⟩, K1.out, old_view HO.out h3.out K2.out ht K3.out, h4.out.app h5.out K3.out, h5.out.trans K4.out h4.out.size⟩
        rw [List.append_assoc, List.singleton_append, ← byte_more hlt]
        exact h1.out
      case measure => simp [intOf]; omega
    · go_wp2_with (at_builtin; go_must (refine wp_app1 rfl _ _ 29 5 .u8 1 rfl Try.underlying29 infoU8 (by decide) u0 pre _ rfl h2 rfl ?b2 ?_); (case b2 => have h := congrArg List.length h1.out; have := vb_pos y.toNat; simp at h; have := HL.out; omega); intro v' w1 k1 k2 k3 k4; have K1 := Lib.hid k1; have K2 := Lib.hid k2; have K3 := Lib.hid k3; have K4 := Lib.hid k4; clear k1 k2 k3 k4)
      go_ret
      obtain ⟨t, ht⟩ := ht.out
      refine ⟨_, rfl, ?_, old_view HO.out h3.out K2.out ht K3.out, h4.out.app h5.out K3.out, h5.out.trans K4.out h4.out.size⟩
      have := K1.out
      rw [← byte_last hy hlt, h1.out] at this
      exact this
theorem rd_of_own {w : World} {e : TypeId} {k : IntKind} {v : Value} {l : List Int} (h : Own w e k v l) : ∀ A n c, v = .slice A n c → Rd w k A l := fun A n c h' => by
  obtain ⟨A', c', h'', _, hr⟩ := h.reads
  rw [h''] at h'
  injection h' with h' _ _
  exact h' ▸ hr
/-- what the three append calls leave -/
def Appended (v : Value) (l m : List Int) (w : World) (e : Ending) (w' : World) : Prop :=
  ∃ v', e = .returned v' ∧ OwnB w' v' (l ++ m) ∧ (∀ A n c, v = .slice A n c → Rd w' .u8 A l) ∧ Chg (fun g => v.ownBlock = some g) w w' ∧ Fresh w v v'
theorem appendUint' (v : Value) (l : List Int) (x : Int) (w : World) (hx : 0 ≤ x) (hown : Hid (OwnB w v l)) (hlen : l.length + (vb x.toNat).length ≤ 140737488355328) :
    Calls Try.prog 21 #[v, .int .u64 x] w (Appended v l (vb x.toNat) w) := appendUint v l x w hx hown hlen
theorem appendText (v : Value) (l : List Int) (s : ByteArray) (w : World) (hs : s.size ≤ 140737488355328) (hown : Hid (OwnB w v l)) (hlen : l.length + 10 + s.size ≤ 140737488355328) :
    Calls Try.prog 22 #[v, .string s] w (Appended v l (vb s.size ++ bytesOf s) w) := by
  have H1 : (vb s.size).length ≤ 10 := vb_len10 (by omega)
  go_enter Try.func22, Try.ntmps22
  go_wp2_with (first | (go_at_call 21; go_must (refine (appendUint' v l _ _ (by omega) hown (by simp; omega)).mono ?_); rintro e w' ⟨v', rfl, k1, k2, k3, k4⟩; have K1 := Lib.hid k1; have K2 := Lib.hid k2; have K3 := Lib.hid k3; have K4 := Lib.hid k4; clear k1 k2 k3 k4) | (at_builtin; go_must (refine wp_apps rfl _ _ 29 9 5 rfl Try.underlying29 Try.underlying9 infoU8 v' _ rfl K1.out s rfl ?b1 ?_); (case b1 => simp; omega); intro v'' w1 k1 k2 k3 k4; have N1 := Lib.hid k1; have N2 := Lib.hid k2; have N3 := Lib.hid k3; have N4 := Lib.hid k4; clear k1 k2 k3 k4))
  go_ret
  refine ⟨_, rfl, ?_, old_view hown.out K2.out N2.out rfl N3.out, K3.out.app K4.out N3.out, K4.out.trans N4.out K3.out.size⟩
  have := N1.out
  rw [List.append_assoc] at this
  exact this
end Go.Proofs.Ytlnomadhgoblkaa.Kit
