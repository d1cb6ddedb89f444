/- The journal: record. -/
import Derived.Test.YtlnomadhgoblkaaProg
import Derived.Test.YtlnomadhgoblkaaJv
set_option linter.unusedVariables false
set_option linter.unusedSimpArgs false
namespace Go.Proofs.Ytlnomadhgoblkaa.Kit
open Go.RowKit
/-- the memory that record makes -/
theorem recMem {g : Nat} {p : Nat} {w w' : World}
    (hw : w' = (((w.alloc (.cells #[.pointer (some ⟨g, 0, none⟩)] 106)).alloc (.cells #[.bool false] 4)).alloc (.cells #[.int .i64 p] 3)).alloc (.cells #[.int .i64 0, .slice none 0 0] 31)) :
    RecF w' w.heap.size g false p (.int .i64 0) (.slice none 0 0) ∧ Chg (fun _ => False) w w' ∧ w'.heap.size = w.heap.size + 4 := by
  obtain ⟨w1, h1⟩ : ∃ w1, w1 = w.alloc (.cells #[.pointer (some ⟨g, 0, none⟩)] 106) := ⟨_, rfl⟩
  obtain ⟨w2, h2⟩ : ∃ w2, w2 = w1.alloc (.cells #[.bool false] 4) := ⟨_, rfl⟩
  obtain ⟨w3, h3⟩ : ∃ w3, w3 = w2.alloc (.cells #[.int .i64 p] 3) := ⟨_, rfl⟩
  rw [← h1, ← h2, ← h3] at hw
  have s1 : w1.heap.size = w.heap.size + 1 := by rw [h1]; simp
  have s2 : w2.heap.size = w.heap.size + 2 := by rw [h2]; simp; omega
  have s3 : w3.heap.size = w.heap.size + 3 := by rw [h3]; simp; omega
  have c1 : Chg (fun _ => False) w w1 := by rw [h1]; exact (Chg.refl _ w).alloc _
  have c2 : Chg (fun _ => False) w1 w2 := by rw [h2]; exact (Chg.refl _ w1).alloc _
  have c3 : Chg (fun _ => False) w2 w3 := by rw [h3]; exact (Chg.refl _ w2).alloc _
  have c4 : Chg (fun _ => False) w3 w' := by rw [hw]; exact (Chg.refl _ w3).alloc _
  have b1 : Blk w1 w.heap.size 106 [.pointer (some ⟨g, 0, none⟩)] := by rw [h1]; exact Blk.new _ _ _
  have b2 : Blk w2 (w.heap.size + 1) 4 [.bool false] := by rw [← s1, h2]; exact Blk.new _ _ _
  have b3 : Blk w3 (w.heap.size + 2) 3 [.int .i64 p] := by rw [← s2, h3]; exact Blk.new _ _ _
  have b4 : Blk w' (w.heap.size + 3) 31 [.int .i64 0, .slice none 0 0] := by rw [← s3, hw]; exact Blk.new _ _ _
  exact ⟨⟨((b1.chg c2 id).chg c3 id).chg c4 id, (b2.chg c3 id).chg c4 id, b3.chg c4 id, b4⟩, ((c1.trans c2 (fun _ _ h => h)).trans c3 (fun _ _ h => h)).trans c4 (fun _ _ h => h), by rw [hw]; simp; omega⟩
/-- record's end where there is none -/
theorem recFail {g gj h : Nat} {D : Nat → Prop} {A : Option Addr} {n c : Nat} {l : List Int} {p q : Nat} {ls : List SecV} {R : Option (SecV × Nat)} {ok : Bool} {v0 v1 : Value} {tmps : Array Value} {w W : World} (ht : tmps[2]? = some (.pointer (some ⟨h + 1, 0, none⟩))) (hR : recRd (l.drop p) ls.length = R) (hn : recRd (l.drop p) ls.length = none) (hx : RecF W h g ok p v0 v1) (ho : Opn W g gj A n c l q) (hj : Jn W D gj ls) (hc : Chg (· = g) w W) (hh : h = w.heap.size) (hg : g < h) (hgj : gj < h) (hD : ∀ y, D y → y < h) (hne : g ≠ gj) (hgD : ¬ D g) (hp : p ≤ n) (hA : ∀ y, Value.ownBlock (.slice A n c) = some y → y < h) :
    Leaves Try.prog Try.f48 tmps (RecRes D g gj A n c l p ls w R) [{ target := .fn (.func 63) #[.pointer (some ⟨h + 1, 0, none⟩), .pointer (some ⟨h + 2, 0, none⟩), .pointer (some ⟨h, 0, none⟩), .pointer (some ⟨h + 3, 0, none⟩)], args := #[] }] .returning (W.setCell ⟨h + 1, 0, none⟩ (.bool false)) := by
  have K := (Chg.refl (· = h + 1) W).setg 0 (.bool false)
  have X := hx.setok false
  have O : Opn (W.setCell ⟨h + 1, 0, none⟩ (.bool false)) g gj A n c l q := ho.chg K (by omega) (fun y hy e => by have := hA y hy; omega)
  have J : Jn (W.setCell ⟨h + 1, 0, none⟩ (.bool false)) D gj ls := hj.chg K (fun y e => ⟨fun hd => by have := hD y hd; omega, by omega⟩)
  have C : Chg (· = g) w (W.setCell ⟨h + 1, 0, none⟩ (.bool false)) := hc.trans K (fun y hy e => by omega)
  refine leaves_cons (f := 63) (args := #[.pointer (some ⟨h + 1, 0, none⟩), .pointer (some ⟨h + 2, 0, none⟩), .pointer (some ⟨h, 0, none⟩), .pointer (some ⟨h + 3, 0, none⟩)]) (by simp) (by simp [go_sem]) ?_
  refine (recD_no .returning (Lib.hid X) (Lib.hid O) hp hg).mono ?_
  rintro e u' w' ⟨rfl, rfl, O', C', X'⟩
  have hcell := X'.ok.at_ (i := 0) rfl
  rw [hn] at hR
  subst hR
  have hfin : RecRes D g gj A n c l p ls w none (.returned (.bool false)) w' := ⟨rfl, O', J.chg C' (fun y e => ⟨fun hd => hgD (e ▸ hd), by omega⟩), C.trans C' (fun _ _ h => h)⟩
  simp [Leaves, settle, results, Try.results48, ht, hcell, go_sem]
  exact hfin
set_option maxRecDepth 100000 in
set_option maxHeartbeats 12800000 in
theorem recC {g gj : Nat} {D : Nat → Prop} {A : Option Addr} {n c : Nat} {l : List Int} {p : Nat} {ls : List SecV} {R : Option (SecV × Nat)} {w : World} (hR : Hid (recRd (l.drop p) ls.length = R)) (ho : Hid (Opn w g gj A n c l p)) (hj : Hid (Jn w D gj ls)) (hb : Hid (Byt l)) (hlen : Hid ((jnlBytes ls).length = p)) (hne : g ≠ gj) (hgD : Hid (¬ D g))
    (hA : Hid (∀ y, Value.ownBlock (.slice A n c) = some y → ¬ (y = gj ∨ D y))) :
    Calls Try.prog 48 #[.pointer (some ⟨g, 0, none⟩)] w (RecRes D g gj A n c l p ls w R) := by
  have h0 := ho.out.blk.at_ (i := 0) rfl
  have h1 := ho.out.blk.at_ (i := 1) rfl
  have a1 : ((w.alloc (.cells #[.pointer (some ⟨g, 0, none⟩)] 106)).alloc (.cells #[.bool false] 4)).cell? ⟨g, 1, none⟩ = some (.int .i64 p) := (((Chg.refl (fun _ => False) w).alloc _).alloc _).cell id h1
  go_enter_defers Try.func48, Try.ntmps48
  go_wp2_with fail
  obtain ⟨h, hh⟩ : ∃ h, h = w.heap.size := ⟨_, rfl⟩
  obtain ⟨wa, hwa⟩ : ∃ wa, wa = (((w.alloc (.cells #[.pointer (some ⟨g, 0, none⟩)] 106)).alloc (.cells #[.bool false] 4)).alloc (.cells #[.int .i64 p] 3)).alloc (.cells #[.int .i64 0, .slice none 0 0] 31) := ⟨_, rfl⟩
  obtain ⟨m1, m2, m3⟩ := recMem hwa
  rw [← hwa, ← hh, show h + 1 + 1 = h + 2 from rfl, show h + 2 + 1 = h + 3 from rfl]
  rw [← hh] at m1
  have hg : g < h := by rw [hh]; exact ho.out.blk.lt
  have hgj : gj < h := by rw [hh]; exact hj.out.lt
  have hD : Hid (∀ y, D y → y < h) := by rw [hh]; exact hj.out.size
  have hAl : Hid (∀ y, Value.ownBlock (.slice A n c) = some y → y < h) := by rw [hh]; exact ho.out.lo
  have hpn := ho.out.le
  have hbd := ho.out.bound
  have hnl := Lib.hid ho.out.len
  have XA := Lib.hid m1
  have CA := Lib.hid m2
  have OA := Lib.hid (ho.out.chg0 m2)
  have JA := Lib.hid (hj.out.chg0 m2)
  have HH := Lib.hid hh
  have HPN := Lib.hid hpn
  have fail0 : Hid (∀ (tmps : Array Value) (W : World) (ok : Bool) (v0 v1 : Value) (q : Nat), tmps[2]? = some (.pointer (some ⟨h + 1, 0, none⟩)) → recRd (l.drop p) ls.length = none → RecF W h g ok p v0 v1 → Opn W g gj A n c l q → Jn W D gj ls → Chg (· = g) w W → Leaves Try.prog Try.f48 tmps (RecRes D g gj A n c l p ls w R) [{ target := .fn (.func 63) #[.pointer (some ⟨h + 1, 0, none⟩), .pointer (some ⟨h + 2, 0, none⟩), .pointer (some ⟨h, 0, none⟩), .pointer (some ⟨h + 3, 0, none⟩)], args := #[] }] .returning (W.setCell ⟨h + 1, 0, none⟩ (.bool false))) :=
    fun tmps W ok v0 v1 q ht hn hx ho hj hc => recFail ht hR.out hn hx ho hj hc HH.out hg hgj hD.out hne hgD.out HPN.out hAl.out
  clear h0 h1 a1 m1 m2 m3 hwa hh
  by_cases hp0 : n ≤ p
  · have HRN : Hid (recRd (l.drop p) ls.length = none) := recRd_1 (by rw [List.drop_of_length_le (by rw [← hnl.out]; exact hp0)]; simp)
    refine (byteNo OA hp0).mono ?_
    rintro e w1 ⟨rfl, q, rfl⟩
    have x1 := XA.out.ok.at_ (i := 0) rfl
    have x2 := XA.out.ok.frozen (i := 0) (by simp)
    go_wp2_with fail
    exact fail0.out _ _ _ _ _ _ rfl HRN.out (XA.out.chg0 ((Chg.refl _ wa).drewN q)) (OA.out.drewN q) (JA.out.chg0 ((Chg.refl _ wa).drewN q)) ((CA.out.drewN q).mono (fun _ _ h => h.elim))
  · have hp1 : p < n := by omega
    obtain ⟨b, hbb⟩ : ∃ b, l[p]? = some b := ⟨_, List.getElem?_eq_getElem (by rw [← hnl.out]; exact hp1)⟩
    have HB := Lib.hid hbb
    have hd0 : Hid ((l.drop p)[0]? = some b) := by rw [Hid, List.getElem?_drop]; simpa using hbb
    clear hbb hp0
    refine (byteOk OA hp1 HB).mono ?_
    rintro e w1 ⟨rfl, n1, n2⟩
    have X1 := Lib.hid (XA.out.chg n2 (fun y hy => by omega))
    have J1 := Lib.hid (JA.out.chg n2 (fun y e => ⟨fun hd => hgD.out (e ▸ hd), by omega⟩))
    have O1 := Lib.hid n1
    have C1 : Hid (Chg (· = g) w w1) := (CA.out.mono (fun _ _ h => h.elim)).trans n2 (fun _ _ h => h)
    have x1 := X1.out.ok.at_ (i := 0) rfl
    have x2 := X1.out.ok.frozen (i := 0) (by simp)
    have x0 := X1.out.o.at_ (i := 0) rfl
    clear n1 n2
    by_cases hb7 : b = 167
    · subst hb7
      obtain ⟨vB, vR, vE, bs, hbk, hv, _⟩ := J1.out.ex
      obtain ⟨AR, cR, hRv, hcR, _⟩ := hv.recs.row.slice
      obtain ⟨k, hk⟩ : ∃ k, k = ls.length := ⟨_, rfl⟩
      rw [← hk] at hRv
      subst hRv
      have HK := Lib.hid hk
      have BK := Lib.hid hbk
      have hk25 : k ≤ 33554432 := by
        have := jnlBytes_len ls
        have := hlen.out
        omega
      obtain ⟨x, sz1, er, hu⟩ : ∃ x sz1 er, urd (l.drop (p + 1)) (k : Int) = (x, sz1, er) := ⟨_, _, _, rfl⟩
      obtain ⟨p2, hp2⟩ : ∃ p2, p + 1 + sz1 = p2 := ⟨_, rfl⟩
      have HU := Lib.hid hu
      have HP2 := Lib.hid hp2
      clear hk hbk hv hu hp2
      go_wp2_with fail
      have EK : IntKind.u64.wrap (k : Int) = (k : Int) := IntWalk.u64_in _ (by omega)
      have g2 := O1.out.blk.at_ (i := 2) rfl
      have j1 := BK.out.at_ (i := 1) rfl
      have HBT := Lib.hid hb.out
      go_region_held3 (fun w' => w'.cell? ⟨h, 0, none⟩ = some (.pointer (some ⟨g, 0, none⟩)) ∧ w'.cell? ⟨g, 2, none⟩ = some (.pointer (some ⟨gj, 0, none⟩)) ∧ w'.cell? ⟨gj, 1, none⟩ = some (.slice AR k cR)) (first | exact ⟨x0, g2, j1⟩ | exact ⟨X2.out.o.at_ (i := 0) rfl, O2.out.blk.at_ (i := 2) rfl, B2.out.at_ (i := 1) rfl⟩ | go_keep) (first | (go_at_call 65; (refine (numberC (Lib.hid (O1.out.chg0 (by repeat (first | exact Chg.refl _ _ | refine Chg.drew ?_ | refine Chg.drewN ?_ _)))) HU HP2 HBT).mono ?_; rintro e w2 ⟨rfl, n1, n2⟩; have O2 := Lib.hid n1; have N2 : Hid (Chg (· = g) w1 w2) := (show Chg (· = g) w1 _ from by repeat (first | exact Chg.refl _ _ | refine Chg.drew ?_ | refine Chg.drewN ?_ _)).trans n2 (fun _ _ h => h); have X2 : Hid (RecF w2 h g false p (.int .i64 0) (.slice none 0 0)) := X1.out.chg N2.out (fun y hy => by omega); have B2 : Hid (Blk w2 gj 88 [vB, .slice AR k cR, vE]) := BK.out.chg N2.out (fun e => hne e.symm); clear n1 n2)))
      have J2 := Lib.hid (J1.out.chg N2.out (fun y e => ⟨fun hd => hgD.out (e ▸ hd), by omega⟩))
      have C2 : Hid (Chg (· = g) w w2) := C1.out.trans N2.out (fun _ _ h => h)
      have y0 := X2.out.o.at_ (i := 0) rfl
      have y1 := X2.out.ok.at_ (i := 0) rfl
      have y2 := X2.out.ok.frozen (i := 0) (by simp)
      have y3 := O2.out.blk.at_ (i := 2) rfl
      have y4 := B2.out.at_ (i := 1) rfl
      have hd1 : Hid (urd ((l.drop p).drop 1) (ls.length : Int) = (x, sz1, er)) := by rw [Hid, List.drop_drop, ← HK.out]; exact HU.out
      clear x0 x1 x2 g2 j1
      by_cases her : er = 0
      · by_cases hxk : x = (k : Int)
        · subst her hxk
          go_wp2_with fail
          have hp2n := O2.out.le
          have hdk : Hid ((l.drop p)[1 + sz1]? = l[p2]?) := by rw [Hid, List.getElem?_drop, ← HP2.out, Nat.add_assoc]
          by_cases hpe : n ≤ p2
          · have HRN : Hid (recRd (l.drop p) ls.length = none) := recRd_3 hd1.out (.inl (by rw [hdk.out]; exact List.getElem?_eq_none (by rw [← hnl.out]; exact hpe)))
            refine (byteNo O2 hpe).mono ?_
            rintro e w3 ⟨rfl, q, rfl⟩
            go_wp2_with fail
            exact fail0.out _ _ _ _ _ _ rfl HRN.out (X2.out.chg0 ((Chg.refl _ w2).drewN q)) (O2.out.drewN q) (J2.out.chg0 ((Chg.refl _ w2).drewN q)) (C2.out.drewN q)
          · have hp3 : p2 < n := by omega
            obtain ⟨kd, hkd⟩ : ∃ kd, l[p2]? = some kd := ⟨_, List.getElem?_eq_getElem (by rw [← hnl.out]; exact hp3)⟩
            have HKD := Lib.hid hkd
            have hkdr : 0 ≤ kd ∧ kd ≤ 255 := by
              have hlt : p2 < l.length := by rw [← hnl.out]; exact hp3
              rw [List.getElem?_eq_getElem hlt] at hkd
              injection hkd with hkd
              have := hb.out _ (List.getElem_mem hlt)
              rw [hkd] at this
              omega
            rw [Hid, hkd] at hdk
            have HDK := Lib.hid hdk
            clear hkd hpe hdk y0 y1 y2 y3 y4
            refine (byteOk O2 hp3 HKD).mono ?_
            rintro e w3 ⟨rfl, n1, n2⟩
            have X3 := Lib.hid (X2.out.chg n2 (fun y hy => by omega))
            have J3 := Lib.hid (J2.out.chg n2 (fun y e => ⟨fun hd => hgD.out (e ▸ hd), by omega⟩))
            have O3 := Lib.hid n1
            have C3 : Hid (Chg (· = g) w w3) := C2.out.trans n2 (fun _ _ h => h)
            have x1 := X3.out.ok.at_ (i := 0) rfl
            have x2 := X3.out.ok.frozen (i := 0) (by simp)
            have x0 := X3.out.o.at_ (i := 0) rfl
            clear n1 n2
            by_cases hk0 : kd = 0
            · subst hk0
              have HRN : Hid (recRd (l.drop p) ls.length = none) := recRd_3 hd1.out (.inr HDK.out)
              go_wp2_with fail
              exact fail0.out _ _ _ _ _ _ rfl HRN.out X3.out O3.out J3.out C3.out
            · obtain ⟨z, sz2, er2, hu2⟩ : ∃ x sz1 er, urd (l.drop (p2 + 1)) 4194304 = (x, sz1, er) := ⟨_, _, _, rfl⟩
              obtain ⟨p4, hp4⟩ : ∃ p4, p2 + 1 + sz2 = p4 := ⟨_, rfl⟩
              have HU2 := Lib.hid hu2
              have HP4 := Lib.hid hp4
              have hd2 : Hid (urd ((l.drop p).drop (2 + sz1)) 4194304 = (z, sz2, er2)) := by rw [Hid, List.drop_drop, ← hu2, ← HP2.out]; congr 2; omega
              clear hu2 hp4
              go_wp2_with fail
              refine (numberC O3 HU2 HP4 HBT).mono ?_
              rintro e w4 ⟨rfl, n1, n2⟩
              have X4 := Lib.hid (X3.out.chg n2 (fun y hy => by omega))
              have J4 := Lib.hid (J3.out.chg n2 (fun y e => ⟨fun hd => hgD.out (e ▸ hd), by omega⟩))
              have O4 := Lib.hid n1
              have C4 : Hid (Chg (· = g) w w4) := C3.out.trans n2 (fun _ _ h => h)
              have z1 := X4.out.ok.at_ (i := 0) rfl
              have z2 := X4.out.ok.frozen (i := 0) (by simp)
              have z0 := X4.out.o.at_ (i := 0) rfl
              clear n1 n2 x0 x1 x2
              by_cases her2 : er2 = 0
              · subst her2
                obtain ⟨_, hz0, hz1, _⟩ := urd_form (byt_drop hb.out _) HU2.out
                obtain ⟨m, rfl⟩ := Int.eq_ofNat_of_zero_le hz0
                have EM : IntKind.i64.wrap ((m : Nat) : Int) = (m : Int) := IntWalk.i64_in _ (by omega)
                obtain ⟨p5, hp5⟩ : ∃ p5, p4 + m = p5 := ⟨_, rfl⟩
                have HP5 := Lib.hid hp5
                have HLL : Hid ((l.drop p).length = n - p) := by rw [Hid, List.length_drop, ← hnl.out]
                have hp4n := O4.out.le
                go_wp2_with fail
                by_cases hfar : n < p5
                · have HRN : Hid (recRd (l.drop p) ls.length = none) := recRd_5 hd1.out hd2.out (by have := HLL.out; have := HP2.out; have := HP4.out; rw [Int.toNat_natCast]; omega)
                  refine (takeNo O4 (by rw [Hid]; omega)).mono ?_
                  rintro e w5 ⟨rfl, q, rfl⟩
                  go_wp2_with fail
                  exact fail0.out _ _ _ _ _ _ rfl HRN.out (X4.out.chg0 ((Chg.refl _ w4).drewN q)) (O4.out.drewN q) (J4.out.chg0 ((Chg.refl _ w4).drewN q)) (C4.out.drewN q)
                · refine (takeOk O4 HP5 (by rw [Hid]; omega)).mono ?_
                  rintro e w5 ⟨A5, n5, c5, rfl, n1, n2, n3, n4, n5'⟩
                  have hsz4 : Hid (h + 4 ≤ w4.heap.size) := by have := X4.out.r.lt; rw [Hid]; omega
                  have X5 := Lib.hid (X4.out.chg n4 (fun y hy => by omega))
                  have J5 := Lib.hid (J4.out.chg n4 (fun y e => ⟨fun hd => hgD.out (e ▸ hd), by omega⟩))
                  have O5 := Lib.hid n1
                  have C5 : Hid (Chg (· = g) w w5) := C4.out.trans n4 (fun _ _ h => h)
                  have B5 := Lib.hid n3
                  have F5 : Hid (∀ y, Value.ownBlock (.slice A5 n5 c5) = some y → w4.heap.size ≤ y) := n5'
                  have HN5 := Lib.hid n2
                  have x1 := X5.out.ok.at_ (i := 0) rfl
                  have x2 := X5.out.ok.frozen (i := 0) (by simp)
                  have x0 := X5.out.o.at_ (i := 0) rfl
                  have xf := X5.out.fr.at_ (i := 0) rfl
                  have o0 := O5.out.blk.at_ (i := 0) rfl
                  have o1 := O5.out.blk.at_ (i := 1) rfl
                  have hcap := O5.out.cap
                  have hmx := O5.out.mx
                  clear n1 n2 n3 n4 n5' z0 z1 z2 hp5
                  have hcp : ¬ c = p := by have := HP2.out; omega
                  have b0 : (0 : Int) ≤ (p : Int) := by omega
                  have b1 : (p : Int) ≤ (p5 : Int) := by have := HP2.out; have := HP4.out; have := HP5.out; omega
                  have b3 : (p5 : Int) ≤ (c : Int) := by omega
                  obtain ⟨hd, hhd⟩ : ∃ hd, hd = (l.drop p).take (p5 - p) := ⟨_, rfl⟩
                  have HN6 : Hid (p5 - p = hd.length) := by have := HLL.out; rw [Hid, hhd, List.length_take]; omega
                  have HB6 : Hid (Byt hd) := by rw [hhd]; exact byt_take (byt_drop hb.out _) _
                  have HL6 : Hid (hd.length ≤ 140737488355328) := by rw [Hid, ← HN6.out]; omega
                  have HR6 : Hid (∀ W, Chg (fun _ => False) w5 W → Rd W .u8 (A.map (·.add p)) hd) := fun W hW => by rw [hhd]; exact (rd_from (O5.out.rd.chg hW (fun _ _ _ => id)) p).take _
                  have HHD := Lib.hid hhd
                  clear hhd
                  go_wp2_with fail
                  go_region_held3 (fun w' => w'.cell? ⟨h, 0, none⟩ = some (.pointer (some ⟨g, 0, none⟩)) ∧ w'.cell? ⟨h + 2, 0, none⟩ = some (.int .i64 p) ∧ w'.cell? ⟨g, 0, none⟩ = some (.slice A n c) ∧ w'.cell? ⟨g, 1, none⟩ = some (.int .i64 p5)) (first | exact ⟨x0, xf, o0, o1⟩ | exact ⟨X6.out.o.at_ (i := 0) rfl, X6.out.fr.at_ (i := 0) rfl, O6.out.blk.at_ (i := 0) rfl, O6.out.blk.at_ (i := 1) rfl⟩ | go_keep) (first | (go_at_call 23; (refine (crcCall _ _ _ _ _ HN6 HB6 HL6 (Lib.hid (HR6.out _ (by repeat (first | exact Chg.refl _ _ | refine Chg.drew ?_ | refine Chg.drewN ?_ _))))).mono ?_; rintro e w6 ⟨rfl, n1⟩; have N6 : Hid (Chg (fun _ => False) w5 w6) := (show Chg (fun _ => False) w5 _ from by repeat (first | exact Chg.refl _ _ | refine Chg.drew ?_ | refine Chg.drewN ?_ _)).trans n1 (fun _ _ h => h); have X6 : Hid (RecF w6 h g false p (.int .i64 0) (.slice none 0 0)) := X5.out.chg0 N6.out; have O6 : Hid (Opn w6 g gj A n c l p5) := O5.out.chg0 N6.out; clear n1)))
                  go_wp2_with fail
                  obtain ⟨p6, hp6⟩ : ∃ p6, p5 + 4 = p6 := ⟨_, rfl⟩
                  have HP6 := Lib.hid hp6
                  have v0 := vi_nonneg (crc hd)
                  have v1 := vi_lt (crc hd)
                  obtain ⟨z7, hz7⟩ : ∃ z, vi (crc hd) = z := ⟨_, rfl⟩
                  rw [hz7] at v0 v1 ⊢
                  have HZ7 := Lib.hid hz7
                  have J6 := Lib.hid (J5.out.chg0 N6.out)
                  have C6 : Hid (Chg (· = g) w w6) := C5.out.trans N6.out (fun _ _ h => h.elim)
                  have B6 := Lib.hid (B5.out.chg N6.out (fun _ _ h => h))
                  clear x0 x1 x2 xf o0 o1 hz7
                  by_cases hfar2 : n < p6
                  · have HRN : Hid (recRd (l.drop p) ls.length = none) := recRd_5 hd1.out hd2.out (by have := HLL.out; have := HP2.out; have := HP4.out; have := HP5.out; rw [Int.toNat_natCast]; omega)
                    refine (takeNo O6 (m := 4) (by rw [Hid]; omega)).mono ?_
                    rintro e w7 ⟨rfl, q, rfl⟩
                    have x1 := X6.out.ok.at_ (i := 0) rfl
                    have x2 := X6.out.ok.frozen (i := 0) (by simp)
                    go_wp2_with fail
                    go_quiet (fail)
                    go_wp2_with fail
                    exact fail0.out _ _ _ _ _ _ rfl HRN.out (X6.out.chg0 ((Chg.refl _ w6).drewN _)) (O6.out.drewN _) (J6.out.chg0 ((Chg.refl _ w6).drewN _)) (C6.out.drewN _)
                  · refine (show Calls Try.prog _ #[_, .int .i64 ((4 : Nat) : Int)] w6 _ from (takeOk O6 HP6 (by rw [Hid]; omega)).mono ?_)
                    rintro e w7 ⟨A7, n7, c7, rfl, n1, n2, n3, n4, n5'⟩
                    have X7 := Lib.hid (X6.out.chg n4 (fun y hy => by omega))
                    have J7 := Lib.hid (J6.out.chg n4 (fun y e => ⟨fun hd => hgD.out (e ▸ hd), by omega⟩))
                    have O7 := Lib.hid n1
                    have C7 : Hid (Chg (· = g) w w7) := C6.out.trans n4 (fun _ _ h => h)
                    have B7 := Lib.hid (B6.out.chg n4 (fun y hy e => by have := F5.out y hy; have := hsz4.out; omega))
                    have HN7 : Hid (n7 = ((l.drop p5).take 4).length) := by rw [Hid, n2, List.length_take, List.length_drop, ← hnl.out]; omega
                    obtain ⟨T, hT⟩ : ∃ T, T = (l.drop p5).take 4 := ⟨_, rfl⟩
                    rw [← hT] at n3 HN7
                    have T7 := Lib.hid n3
                    have HBT7 : Hid (Byt T) := by rw [hT]; exact byt_take (byt_drop hb.out _) _
                    have HT := Lib.hid hT
                    have QT : Hid (∀ W, Chg (fun _ => False) w7 W → (convert 29 9 (.slice A7 n7 c7)).run Try.prog W = .ok (.string (strOf T)) W) := fun W hW => conv_str W A7 n7 c7 T HN7.out ((T7.out.chg hW (fun _ _ h => h)).rd (by rw [HN7.out]))
                    have x1 := X7.out.ok.at_ (i := 0) rfl
                    have x2 := X7.out.ok.frozen (i := 0) (by simp)
                    clear n1 n2 n3 n4 n5' hT
                    have RT := Lib.hid (rec_tail hd0.out hd1.out HK.out HDK.out hk0 hd2.out HP2.out HP4.out HP5.out HP6.out hnl.out hfar2 HHD.out HZ7.out HT.out)
                    have hpp6 : p + (p6 - p) = p6 := by have := HP2.out; have := HP4.out; have := HP5.out; have := HP6.out; omega
                    have FAIL : Hid (∀ (tmps : Array Value) (W : World), T ≠ sumB z7 → Chg (fun _ => False) w7 W → tmps[2]? = some (.pointer (some ⟨h + 1, 0, none⟩)) → Leaves Try.prog Try.f48 tmps (RecRes D g gj A n c l p ls w R) [{ target := .fn (.func 63) #[.pointer (some ⟨h + 1, 0, none⟩), .pointer (some ⟨h + 2, 0, none⟩), .pointer (some ⟨h, 0, none⟩), .pointer (some ⟨h + 3, 0, none⟩)], args := #[] }] .returning (W.setCell ⟨h + 1, 0, none⟩ (.bool false))) :=
                      fun tmps W hTe hW ht => fail0.out _ _ _ _ _ _ ht (RT.out.1 hTe) (X7.out.chg0 hW) (O7.out.chg0 hW) (J7.out.chg0 hW) (C7.out.trans hW (fun _ _ h => h.elim))
                    have WIN : Hid (∀ (tmps : Array Value) (W : World), T = sumB z7 → Chg (fun _ => False) w7 W → tmps[2]? = some (.pointer (some ⟨h + 1, 0, none⟩)) → Leaves Try.prog Try.f48 tmps (RecRes D g gj A n c l p ls w R) [{ target := .fn (.func 63) #[.pointer (some ⟨h + 1, 0, none⟩), .pointer (some ⟨h + 2, 0, none⟩), .pointer (some ⟨h, 0, none⟩), .pointer (some ⟨h + 3, 0, none⟩)], args := #[] }] .returning (((W.setCell ⟨h + 3, 0, none⟩ (.int .i64 kd)).setCell ⟨h + 3, 1, none⟩ (.slice A5 n5 c5)).setCell ⟨h + 1, 0, none⟩ (.bool true))) :=
                      fun tmps W hTe hW ht => recWin (x := ⟨kd, (l.drop p4).take m⟩) (sz := p6 - p) (b := .slice A5 n5 c5) ht hR.out (RT.out.2 hTe) hb.out (X7.out.chg0 hW) (O7.out.chg0 hW) hpp6 (J7.out.chg0 hW) (B7.out.chg hW (fun _ _ h => h)) (fun y hy => by have := F5.out y hy; have := hsz4.out; omega) hlen.out (C7.out.trans hW (fun _ _ h => h.elim)) HH.out hg hgj hD.out hne hgD.out hAl.out hA.out (by have := C7.out.size; have := hW.size; have := HH.out; omega)
                    have CELLS : Hid (∀ W, Chg (fun _ => False) w7 W → W.cell? ⟨h + 1, 0, none⟩ = some (.bool false) ∧ W.frozen? ⟨h + 1, 0, none⟩ = false ∧ W.cell? ⟨h + 3, 0, none⟩ = some (.int .i64 0) ∧ W.cell? ⟨h + 3, 1, none⟩ = some (.slice none 0 0) ∧ W.frozen? ⟨h + 3, 0, none⟩ = false ∧ W.frozen? ⟨h + 3, 1, none⟩ = false) := fun W hW =>
                      have X := X7.out.chg0 hW
                      ⟨X.ok.at_ (i := 0) rfl, X.ok.frozen (i := 0) (by simp), X.r.at_ (i := 0) rfl, X.r.at_ (i := 1) rfl, X.r.frozen (i := 0) (by simp), X.r.frozen (i := 1) (by simp)⟩
                    have qt7 := QT.out w7.drew ((Chg.refl _ w7).drew)
                    have HVT : Hid (strOf T = strOf (sumB z7) → T = sumB z7) := fun e => by rw [← bytesOf_strOf HBT7.out, e, bytesOf_strOf (sumB_byt _ v0 v1)]
                    have HSB : Hid (((strOf T).toList == (strOf (sumB z7)).toList) = decide (T = sumB z7)) := str_beqJ HBT7.out (sumB_byt _ v0 v1)
                    have EKD : IntKind.i64.wrap kd = kd := IntWalk.i64_in _ (by omega)
                    clear fail0 RT hd0 hd1 hd2 HU HU2 HHD HR6 HN6 HB6 HL6
                    by_cases hse : strOf T = strOf (sumB z7)
                    · have hTe := Lib.hid (HVT.out hse)
                      go_wp2_with fail
                      refine wp_region_noPanic ?_
                      go_region_with (first | (go_at_call 42; (refine (sumBytes z7 _ v0 v1).mono ?_; rintro e w8 ⟨A8, c8, rfl, n1⟩; have C8 : Hid (Chg (fun _ => False) w7 w8) := (show Chg (fun _ => False) w7 _ from by repeat (first | exact Chg.refl _ _ | refine Chg.drew ?_ | refine Chg.drewN ?_ _)).trans n1.chg (fun _ _ h => h); have q8 : (convert 29 9 (.slice A8 4 c8)).run Try.prog w8 = .ok (.string (strOf (sumB z7))) w8 := conv_str w8 A8 4 c8 (sumB z7) n1.len n1.rd; have qt8 := QT.out w8 C8.out; clear n1)))
                      all_goals
                        refine NoPanic.normal ?_
                        obtain ⟨s5, s6, s1, s2, s3, s4⟩ := CELLS.out w8 C8.out
                        simp only [Act.put, List.setIfInBounds_toArray, List.set_cons_zero, List.set_cons_succ]
                        go_wp2_with fail
                        exact WIN.out _ _ hTe.out C8.out rfl
                    · have hTe : Hid (T ≠ sumB z7) := fun e => hse (by rw [e])
                      have hse2 : ((strOf T).toList == (strOf (sumB z7)).toList) = false := by rw [HSB.out, decide_eq_false hTe.out]
                      go_wp2_with fail
                      refine wp_region_noPanic ?_
                      go_region_with (first | (go_at_call 42; (refine (sumBytes z7 _ v0 v1).mono ?_; rintro e w8 ⟨A8, c8, rfl, n1⟩; have C8 : Hid (Chg (fun _ => False) w7 w8) := (show Chg (fun _ => False) w7 _ from by repeat (first | exact Chg.refl _ _ | refine Chg.drew ?_ | refine Chg.drewN ?_ _)).trans n1.chg (fun _ _ h => h); have q8 : (convert 29 9 (.slice A8 4 c8)).run Try.prog w8 = .ok (.string (strOf (sumB z7))) w8 := conv_str w8 A8 4 c8 (sumB z7) n1.len n1.rd; have qt8 := QT.out w8 C8.out; clear n1)))
                      all_goals
                        refine NoPanic.normal ?_
                        obtain ⟨s1, s2, _⟩ := CELLS.out w8 C8.out
                        simp only [Act.put, List.setIfInBounds_toArray, List.set_cons_zero, List.set_cons_succ]
                        go_wp2_with fail
                        exact FAIL.out _ _ hTe.out C8.out rfl
              · have HRN : Hid (recRd (l.drop p) ls.length = none) := recRd_4 hd1.out hd2.out her2
                have HE2 : (er2 == 0) = false := by simpa using her2
                go_wp2_with fail
                exact fail0.out _ _ _ _ _ _ rfl HRN.out X4.out O4.out J4.out C4.out
        · have HRN : Hid (recRd (l.drop p) ls.length = none) := recRd_2 hd1.out (.inr (by rw [← HK.out]; exact hxk))
          subst her
          go_wp2_with fail
          exact fail0.out _ _ _ _ _ _ rfl HRN.out X2.out O2.out J2.out C2.out
      · have HRN : Hid (recRd (l.drop p) ls.length = none) := recRd_2 hd1.out (.inl her)
        have HE0 : (er == 0) = false := by simpa using her
        go_wp2_with fail
        exact fail0.out _ _ _ _ _ _ rfl HRN.out X2.out O2.out J2.out C2.out
    · have HRN : Hid (recRd (l.drop p) ls.length = none) := recRd_1 (by rw [hd0.out]; simpa using hb7)
      go_wp2_with fail
      exact fail0.out _ _ _ _ _ _ rfl HRN.out X1.out O1.out J1.out C1.out
end Go.Proofs.Ytlnomadhgoblkaa.Kit
