/- Texts that the row leans on: Ju, Jw, Jx, Jy, Jz. -/
import Derived.Test.YtlnomadhgoblkaaProg
import Derived.Test.YtlnomadhgoblkaaQJournalExactag
-- The journal: record.
set_option linter.unusedVariables false
set_option linter.unusedSimpArgs false
namespace Go.Proofs.Ytlnomadhgoblkaa.Kit
open Go.RowKit
/-- the memory that record makes -/
theorem recMem {g : Nat} {p : Nat} {w w' : World}
    (hw : w' = (((w.alloc (.cells #[.pointer (some ⟨g, 0, none⟩)] 106)).alloc (.cells #[.bool false] 4)).alloc (.cells #[.int .i64 p] 3)).alloc (.cells #[.int .i64 0, .slice none 0 0] 31)) :
    RecF w' w.heap.size g false p (.int .i64 0) (.slice none 0 0) ∧ Chg (fun _ => False) w w' ∧ w'.heap.size = w.heap.size + 4 := by
  obtain ⟨w1, h1⟩ : ∃ w1, w1 = w.alloc (.cells #[.pointer (some ⟨g, 0, none⟩)] 106) := ⟨_, rfl⟩
  obtain ⟨w2, h2⟩ : ∃ w2, w2 = w1.alloc (.cells #[.bool false] 4) := ⟨_, rfl⟩
  obtain ⟨w3, h3⟩ : ∃ w3, w3 = w2.alloc (.cells #[.int .i64 p] 3) := ⟨_, rfl⟩
  rw [← h1, ← h2, ← h3] at hw
  have s1 : w1.heap.size = w.heap.size + 1 := by rw [h1]; simp
  have s2 : w2.heap.size = w.heap.size + 2 := by rw [h2]; simp; omega
  have s3 : w3.heap.size = w.heap.size + 3 := by rw [h3]; simp; omega
  have c1 : Chg (fun _ => False) w w1 := by rw [h1]; exact (Chg.refl _ w).alloc _
  have c2 : Chg (fun _ => False) w1 w2 := by rw [h2]; exact (Chg.refl _ w1).alloc _
  have c3 : Chg (fun _ => False) w2 w3 := by rw [h3]; exact (Chg.refl _ w2).alloc _
  have c4 : Chg (fun _ => False) w3 w' := by rw [hw]; exact (Chg.refl _ w3).alloc _
  have b1 : Blk w1 w.heap.size 106 [.pointer (some ⟨g, 0, none⟩)] := by rw [h1]; exact Blk.new _ _ _
  have b2 : Blk w2 (w.heap.size + 1) 4 [.bool false] := by rw [← s1, h2]; exact Blk.new _ _ _
  have b3 : Blk w3 (w.heap.size + 2) 3 [.int .i64 p] := by rw [← s2, h3]; exact Blk.new _ _ _
  have b4 : Blk w' (w.heap.size + 3) 31 [.int .i64 0, .slice none 0 0] := by rw [← s3, hw]; exact Blk.new _ _ _
  exact ⟨⟨((b1.chg c2 id).chg c3 id).chg c4 id, (b2.chg c3 id).chg c4 id, b3.chg c4 id, b4⟩, ((c1.trans c2 (fun _ _ h => h)).trans c3 (fun _ _ h => h)).trans c4 (fun _ _ h => h), by rw [hw]; simp; omega⟩
/-- record's end where there is none -/
theorem recFail {g gj h : Nat} {D : Nat → Prop} {A : Option Addr} {n c : Nat} {l : List Int} {p q : Nat} {ls : List SecV} {R : Option (SecV × Nat)} {ok : Bool} {v0 v1 : Value} {tmps : Array Value} {w W : World} (ht : tmps[2]? = some (.pointer (some ⟨h + 1, 0, none⟩))) (hR : recRd (l.drop p) ls.length = R) (hn : recRd (l.drop p) ls.length = none) (hx : RecF W h g ok p v0 v1) (ho : Opn W g gj A n c l q) (hj : Jn W D gj ls) (hc : Chg (· = g) w W) (hh : h = w.heap.size) (hg : g < h) (hgj : gj < h) (hD : ∀ y, D y → y < h) (hne : g ≠ gj) (hgD : ¬ D g) (hp : p ≤ n) (hA : ∀ y, Value.ownBlock (.slice A n c) = some y → y < h) :
    Leaves Try.prog Try.f48 tmps (RecRes D g gj A n c l p ls w R) [{ target := .fn (.func 63) #[.pointer (some ⟨h + 1, 0, none⟩), .pointer (some ⟨h + 2, 0, none⟩), .pointer (some ⟨h, 0, none⟩), .pointer (some ⟨h + 3, 0, none⟩)], args := #[] }] .returning (W.setCell ⟨h + 1, 0, none⟩ (.bool false)) := by
  have K := (Chg.refl (· = h + 1) W).setg 0 (.bool false)
  have X := hx.setok false
  have O : Opn (W.setCell ⟨h + 1, 0, none⟩ (.bool false)) g gj A n c l q := ho.chg K (by omega) (fun y hy e => by have := hA y hy; omega)
  have J : Jn (W.setCell ⟨h + 1, 0, none⟩ (.bool false)) D gj ls := hj.chg K (fun y e => ⟨fun hd => by have := hD y hd; omega, by omega⟩)
  have C : Chg (· = g) w (W.setCell ⟨h + 1, 0, none⟩ (.bool false)) := hc.trans K (fun y hy e => by omega)
  refine leaves_cons (f := 63) (args := #[.pointer (some ⟨h + 1, 0, none⟩), .pointer (some ⟨h + 2, 0, none⟩), .pointer (some ⟨h, 0, none⟩), .pointer (some ⟨h + 3, 0, none⟩)]) (by simp) (by simp [go_sem]) ?_
  refine (recD_no .returning (Lib.hid X) (Lib.hid O) hp hg).mono ?_
  rintro e u' w' ⟨rfl, rfl, O', C', X'⟩
  have hcell := X'.ok.at_ (i := 0) rfl
  rw [hn] at hR
  subst hR
  have hfin : RecRes D g gj A n c l p ls w none (.returned (.bool false)) w' := ⟨rfl, O', J.chg C' (fun y e => ⟨fun hd => hgD (e ▸ hd), by omega⟩), C.trans C' (fun _ _ h => h)⟩
  simp [Leaves, settle, results, Try.results48, ht, hcell, go_sem]
  exact hfin
set_option maxRecDepth 100000 in
set_option maxHeartbeats 12800000 in
theorem recC {g gj : Nat} {D : Nat → Prop} {A : Option Addr} {n c : Nat} {l : List Int} {p : Nat} {ls : List SecV} {R : Option (SecV × Nat)} {w : World} (hR : Hid (recRd (l.drop p) ls.length = R)) (ho : Hid (Opn w g gj A n c l p)) (hj : Hid (Jn w D gj ls)) (hb : Hid (Byt l)) (hlen : Hid ((jnlBytes ls).length = p)) (hne : g ≠ gj) (hgD : Hid (¬ D g))
    (hA : Hid (∀ y, Value.ownBlock (.slice A n c) = some y → ¬ (y = gj ∨ D y))) :
    Calls Try.prog 48 #[.pointer (some ⟨g, 0, none⟩)] w (RecRes D g gj A n c l p ls w R) := by
  have h0 := ho.out.blk.at_ (i := 0) rfl
  have h1 := ho.out.blk.at_ (i := 1) rfl
  have a1 : ((w.alloc (.cells #[.pointer (some ⟨g, 0, none⟩)] 106)).alloc (.cells #[.bool false] 4)).cell? ⟨g, 1, none⟩ = some (.int .i64 p) := (((Chg.refl (fun _ => False) w).alloc _).alloc _).cell id h1
  go_enter_defers Try.func48, Try.ntmps48
  go_wp2_with fail
  obtain ⟨h, hh⟩ : ∃ h, h = w.heap.size := ⟨_, rfl⟩
  obtain ⟨wa, hwa⟩ : ∃ wa, wa = (((w.alloc (.cells #[.pointer (some ⟨g, 0, none⟩)] 106)).alloc (.cells #[.bool false] 4)).alloc (.cells #[.int .i64 p] 3)).alloc (.cells #[.int .i64 0, .slice none 0 0] 31) := ⟨_, rfl⟩
  obtain ⟨m1, m2, m3⟩ := recMem hwa
  rw [← hwa, ← hh, show h + 1 + 1 = h + 2 from rfl, show h + 2 + 1 = h + 3 from rfl]
  rw [← hh] at m1
  have hg : g < h := by rw [hh]; exact ho.out.blk.lt
  have hgj : gj < h := by rw [hh]; exact hj.out.lt
  have hD : Hid (∀ y, D y → y < h) := by rw [hh]; exact hj.out.size
  have hAl : Hid (∀ y, Value.ownBlock (.slice A n c) = some y → y < h) := by rw [hh]; exact ho.out.lo
  have hpn := ho.out.le
  have hbd := ho.out.bound
  have hnl := Lib.hid ho.out.len
  have XA := Lib.hid m1
  have CA := Lib.hid m2
  have OA := Lib.hid (ho.out.chg0 m2)
  have JA := Lib.hid (hj.out.chg0 m2)
  have HH := Lib.hid hh
  have HPN := Lib.hid hpn
  have fail0 : Hid (∀ (tmps : Array Value) (W : World) (ok : Bool) (v0 v1 : Value) (q : Nat), tmps[2]? = some (.pointer (some ⟨h + 1, 0, none⟩)) → recRd (l.drop p) ls.length = none → RecF W h g ok p v0 v1 → Opn W g gj A n c l q → Jn W D gj ls → Chg (· = g) w W → Leaves Try.prog Try.f48 tmps (RecRes D g gj A n c l p ls w R) [{ target := .fn (.func 63) #[.pointer (some ⟨h + 1, 0, none⟩), .pointer (some ⟨h + 2, 0, none⟩), .pointer (some ⟨h, 0, none⟩), .pointer (some ⟨h + 3, 0, none⟩)], args := #[] }] .returning (W.setCell ⟨h + 1, 0, none⟩ (.bool false))) :=
    fun tmps W ok v0 v1 q ht hn hx ho hj hc => recFail ht hR.out hn hx ho hj hc HH.out hg hgj hD.out hne hgD.out HPN.out hAl.out
  clear h0 h1 a1 m1 m2 m3 hwa hh
  by_cases hp0 : n ≤ p
  · have HRN : Hid (recRd (l.drop p) ls.length = none) := recRd_1 (by rw [List.drop_of_length_le (by rw [← hnl.out]; exact hp0)]; simp)
    refine (byteNo OA hp0).mono ?_
    rintro e w1 ⟨rfl, q, rfl⟩
    have x1 := XA.out.ok.at_ (i := 0) rfl
    have x2 := XA.out.ok.frozen (i := 0) (by simp)
    go_wp2_with fail
    exact fail0.out _ _ _ _ _ _ rfl HRN.out (XA.out.chg0 ((Chg.refl _ wa).drewN q)) (OA.out.drewN q) (JA.out.chg0 ((Chg.refl _ wa).drewN q)) ((CA.out.drewN q).mono (fun _ _ h => h.elim))
  · have hp1 : p < n := by omega
    obtain ⟨b, hbb⟩ : ∃ b, l[p]? = some b := ⟨_, List.getElem?_eq_getElem (by rw [← hnl.out]; exact hp1)⟩
    have HB := Lib.hid hbb
    have hd0 : Hid ((l.drop p)[0]? = some b) := by rw [Hid, List.getElem?_drop]; simpa using hbb
    clear hbb hp0
    refine (byteOk OA hp1 HB).mono ?_
    rintro e w1 ⟨rfl, n1, n2⟩
    have X1 := Lib.hid (XA.out.chg n2 (fun y hy => by omega))
    have J1 := Lib.hid (JA.out.chg n2 (fun y e => ⟨fun hd => hgD.out (e ▸ hd), by omega⟩))
    have O1 := Lib.hid n1
    have C1 : Hid (Chg (· = g) w w1) := (CA.out.mono (fun _ _ h => h.elim)).trans n2 (fun _ _ h => h)
    have x1 := X1.out.ok.at_ (i := 0) rfl
    have x2 := X1.out.ok.frozen (i := 0) (by simp)
    have x0 := X1.out.o.at_ (i := 0) rfl
    clear n1 n2
    by_cases hb7 : b = 167
    · subst hb7
      obtain ⟨vB, vR, vE, bs, hbk, hv, _⟩ := J1.out.ex
      obtain ⟨AR, cR, hRv, hcR, _⟩ := hv.recs.row.slice
      obtain ⟨k, hk⟩ : ∃ k, k = ls.length := ⟨_, rfl⟩
      rw [← hk] at hRv
      subst hRv
      have HK := Lib.hid hk
      have BK := Lib.hid hbk
      have hk25 : k ≤ 33554432 := by
        have := jnlBytes_len ls
        have := hlen.out
        omega
      obtain ⟨x, sz1, er, hu⟩ : ∃ x sz1 er, urd (l.drop (p + 1)) (k : Int) = (x, sz1, er) := ⟨_, _, _, rfl⟩
      obtain ⟨p2, hp2⟩ : ∃ p2, p + 1 + sz1 = p2 := ⟨_, rfl⟩
      have HU := Lib.hid hu
      have HP2 := Lib.hid hp2
      clear hk hbk hv hu hp2
      go_wp2_with fail
      have EK : IntKind.u64.wrap (k : Int) = (k : Int) := IntWalk.u64_in _ (by omega)
      have g2 := O1.out.blk.at_ (i := 2) rfl
      have j1 := BK.out.at_ (i := 1) rfl
      have HBT := Lib.hid hb.out
      go_region_held3 (fun w' => w'.cell? ⟨h, 0, none⟩ = some (.pointer (some ⟨g, 0, none⟩)) ∧ w'.cell? ⟨g, 2, none⟩ = some (.pointer (some ⟨gj, 0, none⟩)) ∧ w'.cell? ⟨gj, 1, none⟩ = some (.slice AR k cR)) (first | exact ⟨x0, g2, j1⟩ | exact ⟨X2.out.o.at_ (i := 0) rfl, O2.out.blk.at_ (i := 2) rfl, B2.out.at_ (i := 1) rfl⟩ | go_keep) (first | (go_at_call 65; (refine (numberC (Lib.hid (O1.out.chg0 (by repeat (first | exact Chg.refl _ _ | refine Chg.drew ?_ | refine Chg.drewN ?_ _)))) HU HP2 HBT).mono ?_; rintro e w2 ⟨rfl, n1, n2⟩; have O2 := Lib.hid n1; have N2 : Hid (Chg (· = g) w1 w2) := (show Chg (· = g) w1 _ from by repeat (first | exact Chg.refl _ _ | refine Chg.drew ?_ | refine Chg.drewN ?_ _)).trans n2 (fun _ _ h => h); have X2 : Hid (RecF w2 h g false p (.int .i64 0) (.slice none 0 0)) := X1.out.chg N2.out (fun y hy => by omega); have B2 : Hid (Blk w2 gj 88 [vB, .slice AR k cR, vE]) := BK.out.chg N2.out (fun e => hne e.symm); clear n1 n2)))
      have J2 := Lib.hid (J1.out.chg N2.out (fun y e => ⟨fun hd => hgD.out (e ▸ hd), by omega⟩))
      have C2 : Hid (Chg (· = g) w w2) := C1.out.trans N2.out (fun _ _ h => h)
      have y0 := X2.out.o.at_ (i := 0) rfl
      have y1 := X2.out.ok.at_ (i := 0) rfl
      have y2 := X2.out.ok.frozen (i := 0) (by simp)
      have y3 := O2.out.blk.at_ (i := 2) rfl
      have y4 := B2.out.at_ (i := 1) rfl
      have hd1 : Hid (urd ((l.drop p).drop 1) (ls.length : Int) = (x, sz1, er)) := by rw [Hid, List.drop_drop, ← HK.out]; exact HU.out
      clear x0 x1 x2 g2 j1
      by_cases her : er = 0
      · by_cases hxk : x = (k : Int)
        · subst her hxk
          go_wp2_with fail
          have hp2n := O2.out.le
          have hdk : Hid ((l.drop p)[1 + sz1]? = l[p2]?) := by rw [Hid, List.getElem?_drop, ← HP2.out, Nat.add_assoc]
          by_cases hpe : n ≤ p2
          · have HRN : Hid (recRd (l.drop p) ls.length = none) := recRd_3 hd1.out (.inl (by rw [hdk.out]; exact List.getElem?_eq_none (by rw [← hnl.out]; exact hpe)))
            refine (byteNo O2 hpe).mono ?_
            rintro e w3 ⟨rfl, q, rfl⟩
            go_wp2_with fail
            exact fail0.out _ _ _ _ _ _ rfl HRN.out (X2.out.chg0 ((Chg.refl _ w2).drewN q)) (O2.out.drewN q) (J2.out.chg0 ((Chg.refl _ w2).drewN q)) (C2.out.drewN q)
          · have hp3 : p2 < n := by omega
            obtain ⟨kd, hkd⟩ : ∃ kd, l[p2]? = some kd := ⟨_, List.getElem?_eq_getElem (by rw [← hnl.out]; exact hp3)⟩
            have HKD := Lib.hid hkd
            have hkdr : 0 ≤ kd ∧ kd ≤ 255 := by
              have hlt : p2 < l.length := by rw [← hnl.out]; exact hp3
              rw [List.getElem?_eq_getElem hlt] at hkd
              injection hkd with hkd
              have := hb.out _ (List.getElem_mem hlt)
              rw [hkd] at this
              omega
            rw [Hid, hkd] at hdk
            have HDK := Lib.hid hdk
            clear hkd hpe hdk y0 y1 y2 y3 y4
            refine (byteOk O2 hp3 HKD).mono ?_
            rintro e w3 ⟨rfl, n1, n2⟩
            have X3 := Lib.hid (X2.out.chg n2 (fun y hy => by omega))
            have J3 := Lib.hid (J2.out.chg n2 (fun y e => ⟨fun hd => hgD.out (e ▸ hd), by omega⟩))
            have O3 := Lib.hid n1
            have C3 : Hid (Chg (· = g) w w3) := C2.out.trans n2 (fun _ _ h => h)
            have x1 := X3.out.ok.at_ (i := 0) rfl
            have x2 := X3.out.ok.frozen (i := 0) (by simp)
            have x0 := X3.out.o.at_ (i := 0) rfl
            clear n1 n2
            by_cases hk0 : kd = 0
            · subst hk0
              have HRN : Hid (recRd (l.drop p) ls.length = none) := recRd_3 hd1.out (.inr HDK.out)
              go_wp2_with fail
              exact fail0.out _ _ _ _ _ _ rfl HRN.out X3.out O3.out J3.out C3.out
            · obtain ⟨z, sz2, er2, hu2⟩ : ∃ x sz1 er, urd (l.drop (p2 + 1)) 4194304 = (x, sz1, er) := ⟨_, _, _, rfl⟩
              obtain ⟨p4, hp4⟩ : ∃ p4, p2 + 1 + sz2 = p4 := ⟨_, rfl⟩
              have HU2 := Lib.hid hu2
              have HP4 := Lib.hid hp4
              have hd2 : Hid (urd ((l.drop p).drop (2 + sz1)) 4194304 = (z, sz2, er2)) := by rw [Hid, List.drop_drop, ← hu2, ← HP2.out]; congr 2; omega
              clear hu2 hp4
              go_wp2_with fail
              refine (numberC O3 HU2 HP4 HBT).mono ?_
              rintro e w4 ⟨rfl, n1, n2⟩
              have X4 := Lib.hid (X3.out.chg n2 (fun y hy => by omega))
              have J4 := Lib.hid (J3.out.chg n2 (fun y e => ⟨fun hd => hgD.out (e ▸ hd), by omega⟩))
              have O4 := Lib.hid n1
              have C4 : Hid (Chg (· = g) w w4) := C3.out.trans n2 (fun _ _ h => h)
              have z1 := X4.out.ok.at_ (i := 0) rfl
              have z2 := X4.out.ok.frozen (i := 0) (by simp)
              have z0 := X4.out.o.at_ (i := 0) rfl
              clear n1 n2 x0 x1 x2
              by_cases her2 : er2 = 0
              · subst her2
                obtain ⟨_, hz0, hz1, _⟩ := urd_form (byt_drop hb.out _) HU2.out
                obtain ⟨m, rfl⟩ := Int.eq_ofNat_of_zero_le hz0
                have EM : IntKind.i64.wrap ((m : Nat) : Int) = (m : Int) := IntWalk.i64_in _ (by omega)
                obtain ⟨p5, hp5⟩ : ∃ p5, p4 + m = p5 := ⟨_, rfl⟩
                have HP5 := Lib.hid hp5
                have HLL : Hid ((l.drop p).length = n - p) := by rw [Hid, List.length_drop, ← hnl.out]
                have hp4n := O4.out.le
                go_wp2_with fail
                by_cases hfar : n < p5
                · have HRN : Hid (recRd (l.drop p) ls.length = none) := recRd_5 hd1.out hd2.out (by have := HLL.out; have := HP2.out; have := HP4.out; rw [Int.toNat_natCast]; omega)
                  refine (takeNo O4 (by rw [Hid]; omega)).mono ?_
                  rintro e w5 ⟨rfl, q, rfl⟩
                  go_wp2_with fail
                  exact fail0.out _ _ _ _ _ _ rfl HRN.out (X4.out.chg0 ((Chg.refl _ w4).drewN q)) (O4.out.drewN q) (J4.out.chg0 ((Chg.refl _ w4).drewN q)) (C4.out.drewN q)
                · refine (takeOk O4 HP5 (by rw [Hid]; omega)).mono ?_
                  rintro e w5 ⟨A5, n5, c5, rfl, n1, n2, n3, n4, n5'⟩
                  have hsz4 : Hid (h + 4 ≤ w4.heap.size) := by have := X4.out.r.lt; rw [Hid]; omega
                  have X5 := Lib.hid (X4.out.chg n4 (fun y hy => by omega))
                  have J5 := Lib.hid (J4.out.chg n4 (fun y e => ⟨fun hd => hgD.out (e ▸ hd), by omega⟩))
                  have O5 := Lib.hid n1
                  have C5 : Hid (Chg (· = g) w w5) := C4.out.trans n4 (fun _ _ h => h)
                  have B5 := Lib.hid n3
                  have F5 : Hid (∀ y, Value.ownBlock (.slice A5 n5 c5) = some y → w4.heap.size ≤ y) := n5'
                  have HN5 := Lib.hid n2
                  have x1 := X5.out.ok.at_ (i := 0) rfl
                  have x2 := X5.out.ok.frozen (i := 0) (by simp)
                  have x0 := X5.out.o.at_ (i := 0) rfl
                  have xf := X5.out.fr.at_ (i := 0) rfl
                  have o0 := O5.out.blk.at_ (i := 0) rfl
                  have o1 := O5.out.blk.at_ (i := 1) rfl
                  have hcap := O5.out.cap
                  have hmx := O5.out.mx
                  clear n1 n2 n3 n4 n5' z0 z1 z2 hp5
                  have hcp : ¬ c = p := by have := HP2.out; omega
                  have b0 : (0 : Int) ≤ (p : Int) := by omega
                  have b1 : (p : Int) ≤ (p5 : Int) := by have := HP2.out; have := HP4.out; have := HP5.out; omega
                  have b3 : (p5 : Int) ≤ (c : Int) := by omega
                  obtain ⟨hd, hhd⟩ : ∃ hd, hd = (l.drop p).take (p5 - p) := ⟨_, rfl⟩
                  have HN6 : Hid (p5 - p = hd.length) := by have := HLL.out; rw [Hid, hhd, List.length_take]; omega
                  have HB6 : Hid (Byt hd) := by rw [hhd]; exact byt_take (byt_drop hb.out _) _
                  have HL6 : Hid (hd.length ≤ 140737488355328) := by rw [Hid, ← HN6.out]; omega
                  have HR6 : Hid (∀ W, Chg (fun _ => False) w5 W → Rd W .u8 (A.map (·.add p)) hd) := fun W hW => by rw [hhd]; exact (rd_from (O5.out.rd.chg hW (fun _ _ _ => id)) p).take _
                  have HHD := Lib.hid hhd
                  clear hhd
                  go_wp2_with fail
                  go_region_held3 (fun w' => w'.cell? ⟨h, 0, none⟩ = some (.pointer (some ⟨g, 0, none⟩)) ∧ w'.cell? ⟨h + 2, 0, none⟩ = some (.int .i64 p) ∧ w'.cell? ⟨g, 0, none⟩ = some (.slice A n c) ∧ w'.cell? ⟨g, 1, none⟩ = some (.int .i64 p5)) (first | exact ⟨x0, xf, o0, o1⟩ | exact ⟨X6.out.o.at_ (i := 0) rfl, X6.out.fr.at_ (i := 0) rfl, O6.out.blk.at_ (i := 0) rfl, O6.out.blk.at_ (i := 1) rfl⟩ | go_keep) (first | (go_at_call 23; (refine (crcCall _ _ _ _ _ HN6 HB6 HL6 (Lib.hid (HR6.out _ (by repeat (first | exact Chg.refl _ _ | refine Chg.drew ?_ | refine Chg.drewN ?_ _))))).mono ?_; rintro e w6 ⟨rfl, n1⟩; have N6 : Hid (Chg (fun _ => False) w5 w6) := (show Chg (fun _ => False) w5 _ from by repeat (first | exact Chg.refl _ _ | refine Chg.drew ?_ | refine Chg.drewN ?_ _)).trans n1 (fun _ _ h => h); have X6 : Hid (RecF w6 h g false p (.int .i64 0) (.slice none 0 0)) := X5.out.chg0 N6.out; have O6 : Hid (Opn w6 g gj A n c l p5) := O5.out.chg0 N6.out; clear n1)))
                  go_wp2_with fail
                  obtain ⟨p6, hp6⟩ : ∃ p6, p5 + 4 = p6 := ⟨_, rfl⟩
                  have HP6 := Lib.hid hp6
                  have v0 := vi_nonneg (crc hd)
                  have v1 := vi_lt (crc hd)
                  obtain ⟨z7, hz7⟩ : ∃ z, vi (crc hd) = z := ⟨_, rfl⟩
                  rw [hz7] at v0 v1 ⊢
                  have HZ7 := Lib.hid hz7
                  have J6 := Lib.hid (J5.out.chg0 N6.out)
                  have C6 : Hid (Chg (· = g) w w6) := C5.out.trans N6.out (fun _ _ h => h.elim)
                  have B6 := Lib.hid (B5.out.chg N6.out (fun _ _ h => h))
                  clear x0 x1 x2 xf o0 o1 hz7
                  by_cases hfar2 : n < p6
                  · have HRN : Hid (recRd (l.drop p) ls.length = none) := recRd_5 hd1.out hd2.out (by have := HLL.out; have := HP2.out; have := HP4.out; have := HP5.out; rw [Int.toNat_natCast]; omega)
                    refine (takeNo O6 (m := 4) (by rw [Hid]; omega)).mono ?_
                    rintro e w7 ⟨rfl, q, rfl⟩
                    have x1 := X6.out.ok.at_ (i := 0) rfl
                    have x2 := X6.out.ok.frozen (i := 0) (by simp)
                    go_wp2_with fail
                    go_quiet (fail)
                    go_wp2_with fail
                    exact fail0.out _ _ _ _ _ _ rfl HRN.out (X6.out.chg0 ((Chg.refl _ w6).drewN _)) (O6.out.drewN _) (J6.out.chg0 ((Chg.refl _ w6).drewN _)) (C6.out.drewN _)
                  · refine (show Calls Try.prog _ #[_, .int .i64 ((4 : Nat) : Int)] w6 _ from (takeOk O6 HP6 (by rw [Hid]; omega)).mono ?_)
                    rintro e w7 ⟨A7, n7, c7, rfl, n1, n2, n3, n4, n5'⟩
                    have X7 := Lib.hid (X6.out.chg n4 (fun y hy => by omega))
                    have J7 := Lib.hid (J6.out.chg n4 (fun y e => ⟨fun hd => hgD.out (e ▸ hd), by omega⟩))
                    have O7 := Lib.hid n1
                    have C7 : Hid (Chg (· = g) w w7) := C6.out.trans n4 (fun _ _ h => h)
                    have B7 := Lib.hid (B6.out.chg n4 (fun y hy e => by have := F5.out y hy; have := hsz4.out; omega))
                    have HN7 : Hid (n7 = ((l.drop p5).take 4).length) := by rw [Hid, n2, List.length_take, List.length_drop, ← hnl.out]; omega
                    obtain ⟨T, hT⟩ : ∃ T, T = (l.drop p5).take 4 := ⟨_, rfl⟩
                    rw [← hT] at n3 HN7
                    have T7 := Lib.hid n3
                    have HBT7 : Hid (Byt T) := by rw [hT]; exact byt_take (byt_drop hb.out _) _
                    have HT := Lib.hid hT
                    have QT : Hid (∀ W, Chg (fun _ => False) w7 W → (convert 29 9 (.slice A7 n7 c7)).run Try.prog W = .ok (.string (strOf T)) W) := fun W hW => conv_str W A7 n7 c7 T HN7.out ((T7.out.chg hW (fun _ _ h => h)).rd (by rw [HN7.out]))
                    have x1 := X7.out.ok.at_ (i := 0) rfl
                    have x2 := X7.out.ok.frozen (i := 0) (by simp)
                    clear n1 n2 n3 n4 n5' hT
                    have RT := Lib.hid (rec_tail hd0.out hd1.out HK.out HDK.out hk0 hd2.out HP2.out HP4.out HP5.out HP6.out hnl.out hfar2 HHD.out HZ7.out HT.out)
                    have hpp6 : p + (p6 - p) = p6 := by have := HP2.out; have := HP4.out; have := HP5.out; have := HP6.out; omega
                    have FAIL : Hid (∀ (tmps : Array Value) (W : World), T ≠ sumB z7 → Chg (fun _ => False) w7 W → tmps[2]? = some (.pointer (some ⟨h + 1, 0, none⟩)) → Leaves Try.prog Try.f48 tmps (RecRes D g gj A n c l p ls w R) [{ target := .fn (.func 63) #[.pointer (some ⟨h + 1, 0, none⟩), .pointer (some ⟨h + 2, 0, none⟩), .pointer (some ⟨h, 0, none⟩), .pointer (some ⟨h + 3, 0, none⟩)], args := #[] }] .returning (W.setCell ⟨h + 1, 0, none⟩ (.bool false))) :=
                      fun tmps W hTe hW ht => fail0.out _ _ _ _ _ _ ht (RT.out.1 hTe) (X7.out.chg0 hW) (O7.out.chg0 hW) (J7.out.chg0 hW) (C7.out.trans hW (fun _ _ h => h.elim))
                    have WIN : Hid (∀ (tmps : Array Value) (W : World), T = sumB z7 → Chg (fun _ => False) w7 W → tmps[2]? = some (.pointer (some ⟨h + 1, 0, none⟩)) → Leaves Try.prog Try.f48 tmps (RecRes D g gj A n c l p ls w R) [{ target := .fn (.func 63) #[.pointer (some ⟨h + 1, 0, none⟩), .pointer (some ⟨h + 2, 0, none⟩), .pointer (some ⟨h, 0, none⟩), .pointer (some ⟨h + 3, 0, none⟩)], args := #[] }] .returning (((W.setCell ⟨h + 3, 0, none⟩ (.int .i64 kd)).setCell ⟨h + 3, 1, none⟩ (.slice A5 n5 c5)).setCell ⟨h + 1, 0, none⟩ (.bool true))) :=
                      fun tmps W hTe hW ht => recWin (x := ⟨kd, (l.drop p4).take m⟩) (sz := p6 - p) (b := .slice A5 n5 c5) ht hR.out (RT.out.2 hTe) hb.out (X7.out.chg0 hW) (O7.out.chg0 hW) hpp6 (J7.out.chg0 hW) (B7.out.chg hW (fun _ _ h => h)) (fun y hy => by have := F5.out y hy; have := hsz4.out; omega) hlen.out (C7.out.trans hW (fun _ _ h => h.elim)) HH.out hg hgj hD.out hne hgD.out hAl.out hA.out (by have := C7.out.size; have := hW.size; have := HH.out; omega)
                    have CELLS : Hid (∀ W, Chg (fun _ => False) w7 W → W.cell? ⟨h + 1, 0, none⟩ = some (.bool false) ∧ W.frozen? ⟨h + 1, 0, none⟩ = false ∧ W.cell? ⟨h + 3, 0, none⟩ = some (.int .i64 0) ∧ W.cell? ⟨h + 3, 1, none⟩ = some (.slice none 0 0) ∧ W.frozen? ⟨h + 3, 0, none⟩ = false ∧ W.frozen? ⟨h + 3, 1, none⟩ = false) := fun W hW =>
                      have X := X7.out.chg0 hW
                      ⟨X.ok.at_ (i := 0) rfl, X.ok.frozen (i := 0) (by simp), X.r.at_ (i := 0) rfl, X.r.at_ (i := 1) rfl, X.r.frozen (i := 0) (by simp), X.r.frozen (i := 1) (by simp)⟩
                    have qt7 := QT.out w7.drew ((Chg.refl _ w7).drew)
                    have HVT : Hid (strOf T = strOf (sumB z7) → T = sumB z7) := fun e => by rw [← bytesOf_strOf HBT7.out, e, bytesOf_strOf (sumB_byt _ v0 v1)]
                    have HSB : Hid (((strOf T).toList == (strOf (sumB z7)).toList) = decide (T = sumB z7)) := str_beqJ HBT7.out (sumB_byt _ v0 v1)
                    have EKD : IntKind.i64.wrap kd = kd := IntWalk.i64_in _ (by omega)
                    clear fail0 RT hd0 hd1 hd2 HU HU2 HHD HR6 HN6 HB6 HL6
                    by_cases hse : strOf T = strOf (sumB z7)
                    · have hTe := Lib.hid (HVT.out hse)
                      go_wp2_with fail
                      refine wp_region_noPanic ?_
                      go_region_with (first | (go_at_call 42; (refine (sumBytes z7 _ v0 v1).mono ?_; rintro e w8 ⟨A8, c8, rfl, n1⟩; have C8 : Hid (Chg (fun _ => False) w7 w8) := (show Chg (fun _ => False) w7 _ from by repeat (first | exact Chg.refl _ _ | refine Chg.drew ?_ | refine Chg.drewN ?_ _)).trans n1.chg (fun _ _ h => h); have q8 : (convert 29 9 (.slice A8 4 c8)).run Try.prog w8 = .ok (.string (strOf (sumB z7))) w8 := conv_str w8 A8 4 c8 (sumB z7) n1.len n1.rd; have qt8 := QT.out w8 C8.out; clear n1)))
                      all_goals
                        refine NoPanic.normal ?_
                        obtain ⟨s5, s6, s1, s2, s3, s4⟩ := CELLS.out w8 C8.out
                        simp only [Act.put, List.setIfInBounds_toArray, List.set_cons_zero, List.set_cons_succ]
                        go_wp2_with fail
                        exact WIN.out _ _ hTe.out C8.out rfl
                    · have hTe : Hid (T ≠ sumB z7) := fun e => hse (by rw [e])
                      have hse2 : ((strOf T).toList == (strOf (sumB z7)).toList) = false := by rw [HSB.out, decide_eq_false hTe.out]
                      go_wp2_with fail
                      refine wp_region_noPanic ?_
                      go_region_with (first | (go_at_call 42; (refine (sumBytes z7 _ v0 v1).mono ?_; rintro e w8 ⟨A8, c8, rfl, n1⟩; have C8 : Hid (Chg (fun _ => False) w7 w8) := (show Chg (fun _ => False) w7 _ from by repeat (first | exact Chg.refl _ _ | refine Chg.drew ?_ | refine Chg.drewN ?_ _)).trans n1.chg (fun _ _ h => h); have q8 : (convert 29 9 (.slice A8 4 c8)).run Try.prog w8 = .ok (.string (strOf (sumB z7))) w8 := conv_str w8 A8 4 c8 (sumB z7) n1.len n1.rd; have qt8 := QT.out w8 C8.out; clear n1)))
                      all_goals
                        refine NoPanic.normal ?_
                        obtain ⟨s1, s2, _⟩ := CELLS.out w8 C8.out
                        simp only [Act.put, List.setIfInBounds_toArray, List.set_cons_zero, List.set_cons_succ]
                        go_wp2_with fail
                        exact FAIL.out _ _ hTe.out C8.out rfl
              · have HRN : Hid (recRd (l.drop p) ls.length = none) := recRd_4 hd1.out hd2.out her2
                have HE2 : (er2 == 0) = false := by simpa using her2
                go_wp2_with fail
                exact fail0.out _ _ _ _ _ _ rfl HRN.out X4.out O4.out J4.out C4.out
        · have HRN : Hid (recRd (l.drop p) ls.length = none) := recRd_2 hd1.out (.inr (by rw [← HK.out]; exact hxk))
          subst her
          go_wp2_with fail
          exact fail0.out _ _ _ _ _ _ rfl HRN.out X2.out O2.out J2.out C2.out
      · have HRN : Hid (recRd (l.drop p) ls.length = none) := recRd_2 hd1.out (.inl her)
        have HE0 : (er == 0) = false := by simpa using her
        go_wp2_with fail
        exact fail0.out _ _ _ _ _ _ rfl HRN.out X2.out O2.out J2.out C2.out
    · have HRN : Hid (recRd (l.drop p) ls.length = none) := recRd_1 (by rw [hd0.out]; simpa using hb7)
      go_wp2_with fail
      exact fail0.out _ _ _ _ _ _ rfl HRN.out X1.out O1.out J1.out C1.out
end Go.Proofs.Ytlnomadhgoblkaa.Kit
-- The journal: Open.
set_option linter.unusedVariables false
set_option linter.unusedSimpArgs false
namespace Go.Proofs.Ytlnomadhgoblkaa.Kit
open Go.RowKit
/-- what Open answers -/
def jopenRes (l : List Int) : Option (List SecV) × Nat × Int :=
  if 268435456 < l.length then (none, 0, 6) else if l.take 8 ≠ jhead.take l.length then (none, 0, 43) else if l.length < 8 then (some [], 0, 0) else (some (jnlRd l l.length [] 8).1, (jnlRd l l.length [] 8).2, 0)
def ROpen (w : World) (R : Option (List SecV) × Nat × Int) (e : Ending) (w' : World) : Prop :=
  match R with
  | (none, m, er) => e = .returned (.tuple #[.pointer none, .int .i64 m, .int .i64 er]) ∧ Chg (fun _ => False) w w'
  | (some ls, m, er) => ∃ g D, e = .returned (.tuple #[.pointer (some ⟨g, 0, none⟩), .int .i64 m, .int .i64 er]) ∧ Jn w' D g ls ∧ (∀ y, D y → w.heap.size ≤ y) ∧ w.heap.size ≤ g ∧ Chg (fun _ => False) w w'
attribute [local go_sem] min2_int min_two
theorem jopenLong {A : Option Addr} {n c : Nat} {l : List Int} {w : World} (HN : Hid (n = l.length)) (h : 268435456 < n) :
    Calls Try.prog 25 #[.slice A n c] w (ROpen w (jopenRes l)) := by
  have hE : Hid (jopenRes l = (none, 0, 6)) := by rw [Hid, jopenRes, if_pos (by rw [← HN.out]; exact h)]
  go_enter Try.func25, Try.ntmps25
  go_wp2_with fail
  go_ret3
  rw [hE.out]
  exact ⟨rfl, Chg.refl _ _⟩
theorem head_cut (q : Nat) (h : q ≤ 8) : (({ data := #[80, 65, 89, 74, 82, 78, 76, 49] } : ByteArray).extract 0 q) = strOf (jhead.take q) := by
  rcases (show q = 0 ∨ q = 1 ∨ q = 2 ∨ q = 3 ∨ q = 4 ∨ q = 5 ∨ q = 6 ∨ q = 7 ∨ q = 8 by omega) with rfl | rfl | rfl | rfl | rfl | rfl | rfl | rfl | rfl <;> rfl
theorem run_head (q : Nat) (h : q ≤ 8) (W : World) : (Instr.slice 9 (.string { data := #[80, 65, 89, 74, 82, 78, 76, 49] }) none (some (.int .i64 q)) none).run Try.prog W = .ok (.string (strOf (jhead.take q))) W := by
  have := run_slice_string_h (P := Try.prog) W 9 { data := #[80, 65, 89, 74, 82, 78, 76, 49] } Try.underlying9 .i64 (q : Int) (by omega) (by show (q : Int) ≤ 8; omega)
  rw [this, Int.toNat_natCast, head_cut q h]
set_option maxRecDepth 20000 in
theorem jopenMagic {A : Option Addr} {n c : Nat} {l : List Int} {w : World} (HN : Hid (n = l.length)) (hnc : n ≤ c) (hb : Hid (Byt l)) (hr : Hid (Rd w .u8 A l)) (h : ¬ 268435456 < n) (hm : l.take 8 ≠ jhead.take l.length) :
    Calls Try.prog 25 #[.slice A n c] w (ROpen w (jopenRes l)) := by
  have hE : Hid (jopenRes l = (none, 0, 43)) := by rw [Hid, jopenRes, if_neg (by rw [← HN.out]; exact h), if_pos hm]
  obtain ⟨q, hq⟩ : ∃ q, q = min n 8 := ⟨_, rfl⟩
  have hqi : min (n : Int) 8 = (q : Int) := by omega
  have b0 : (0 : Int) ≤ (q : Int) := by omega
  have b1 : (q : Int) ≤ (n : Int) := by omega
  have b2 : (n : Int) ≤ (c : Int) := by omega
  have b3 : (q : Int) ≤ (c : Int) := by omega
  have b4 : (q : Int) ≤ 8 := by omega
  have HQ : Hid (q = (l.take 8).length) := by rw [Hid, List.length_take, ← HN.out]; omega
  have QT : Hid (∀ W, Chg (fun _ => False) w W → (convert 29 9 (.slice A q c)).run Try.prog W = .ok (.string (strOf (l.take 8))) W) := fun W hW => conv_str W A q c (l.take 8) HQ.out ((hr.out.below hW.done).take 8)
  have qn : ∀ i, (convert 29 9 (.slice A q c)).run Try.prog (w.drewN i) = .ok (.string (strOf (l.take 8))) (w.drewN i) := fun i => QT.out _ ((Chg.refl _ w).drewN i)
  have ks := run_head q (by omega)
  have hml : ¬ l.take 8 = jhead.take q := fun e => hm (by
    rw [e, hq, ← HN.out]
    rcases Nat.lt_or_ge n 8 with h8 | h8
    · rw [Nat.min_eq_left (by omega)]
    · rw [Nat.min_eq_right h8, List.take_of_length_le (l := jhead) (i := 8) (by simp [jhead]), List.take_of_length_le (l := jhead) (by simp [jhead]; omega)])
  have hne : ((strOf (l.take 8)).toList == (strOf (jhead.take q)).toList) = false := by rw [str_beqJ (byt_take hb.out 8) (byt_take jhead_byt q)]; simpa using hml
  clear hq
  go_enter Try.func25, Try.ntmps25
  go_wp2_with fail
  go_quiet (fail)
  go_wp2_with fail
  go_ret3
  rw [hE.out]
  exact ⟨rfl, (Chg.refl _ w).drewN _⟩
set_option maxRecDepth 20000 in
theorem jopenShort {A : Option Addr} {n c : Nat} {l : List Int} {w : World} (HN : Hid (n = l.length)) (hnc : n ≤ c) (hb : Hid (Byt l)) (hr : Hid (Rd w .u8 A l)) (hm : l.take 8 = jhead.take l.length) (h8 : n < 8) :
    Calls Try.prog 25 #[.slice A n c] w (ROpen w (jopenRes l)) := by
  have hE : Hid (jopenRes l = (some [], 0, 0)) := by rw [Hid, jopenRes, if_neg (by rw [← HN.out]; omega), if_neg (by simpa using hm), if_pos (by rw [← HN.out]; exact h8)]
  have hqi : min (n : Int) 8 = (n : Int) := by omega
  have h0 : ¬ (268435456 < n) := by omega
  have b0 : (0 : Int) ≤ (n : Int) := by omega
  have b2 : (n : Int) ≤ (c : Int) := by omega
  have b4 : (n : Int) ≤ 8 := by omega
  have b5 : (n : Int) < 8 := by omega
  have hl8 : l.take 8 = l := List.take_of_length_le (by rw [← HN.out]; omega)
  have HQ : Hid (n = (l.take 8).length) := by rw [Hid, hl8]; exact HN.out
  have QT : Hid (∀ W, Chg (fun _ => False) w W → (convert 29 9 (.slice A n c)).run Try.prog W = .ok (.string (strOf (l.take 8))) W) := fun W hW => conv_str W A n c (l.take 8) HQ.out ((hr.out.below hW.done).take 8)
  have qn : ∀ i, (convert 29 9 (.slice A n c)).run Try.prog (w.drewN i) = .ok (.string (strOf (l.take 8))) (w.drewN i) := fun i => QT.out _ ((Chg.refl _ w).drewN i)
  have ks := run_head n (by omega)
  have hne : ((strOf (l.take 8)).toList == (strOf (jhead.take n)).toList) = true := by rw [str_beqJ (byt_take hb.out 8) (byt_take jhead_byt n)]; simpa [← HN.out] using hm
  clear hm hl8
  go_enter Try.func25, Try.ntmps25
  go_wp2_with fail
  go_quiet (fail)
  go_wp2_with fail
  refine (jnew _).mono ?_
  rintro e w1 ⟨g, D, rfl, m1, m2, m3, m4⟩
  have M1 := Lib.hid m1
  have M2 : Hid (∀ y, D y → w.heap.size ≤ y) := fun y hy => by have := m2 y hy; simpa using this
  have M3 : Hid (w.heap.size ≤ g) := by have := m3; simpa [Hid] using this
  have M4 : Hid (Chg (fun _ => False) w w1) := ((Chg.refl _ w).drewN _).trans m4 (fun _ _ h => h)
  clear m1 m2 m3 m4
  go_wp2_with fail
  go_ret3
  rw [hE.out]
  exact ⟨g, D, rfl, M1.out, M2.out, M3.out, M4.out⟩
/-- how far the opening has come, told from the world -/
def placeOf (g n : Nat) (w : World) : Nat := match w.cell? ⟨g, 1, none⟩ with
  | some (.int _ x) => n - x.toNat
  | _ => 0
structure OpenL (w0 w : World) (g gj : Nat) (A : Option Addr) (n c : Nat) (l : List Int) (p : Nat) (ls : List SecV) (D : Nat → Prop) (f : Nat) : Prop where
  opn : Opn w g gj A n c l p
  jn : Jn w D gj ls
  len : (jnlBytes ls).length = p
  rd : jnlRd l f ls p = jnlRd l l.length [] 8
  fuel : l.length < p + 8 * f + 8
  new : ∀ y, D y → w0.heap.size ≤ y ∧ y ≠ g
  chg : Chg (fun _ => False) w0 w
set_option maxRecDepth 20000 in
theorem jopenFull {A : Option Addr} {n c : Nat} {l : List Int} {w : World} (HN : Hid (n = l.length)) (hnc : n ≤ c) (hcm : c ≤ maxLen) (hb : Hid (Byt l)) (hr : Hid (Rd w .u8 A l)) (hm : l.take 8 = jhead.take l.length) (h8 : 8 ≤ n) (h0 : ¬ 268435456 < n) :
    Calls Try.prog 25 #[.slice A n c] w (ROpen w (jopenRes l)) := by
  have hE : Hid (jopenRes l = (some (jnlRd l l.length [] 8).1, (jnlRd l l.length [] 8).2, 0)) := by rw [Hid, jopenRes, if_neg (by rw [← HN.out]; exact h0), if_neg (by simpa using hm), if_neg (by rw [← HN.out]; omega)]
  have hqi : min (n : Int) 8 = 8 := by omega
  have b2 : (n : Int) ≤ (c : Int) := by omega
  have b3 : (8 : Int) ≤ (n : Int) := by omega
  have b4 : (8 : Int) ≤ (c : Int) := by omega
  have HQ : Hid (8 = (l.take 8).length) := by rw [Hid, List.length_take, ← HN.out]; omega
  have hh8 : jhead.take l.length = jhead.take 8 := by rw [List.take_of_length_le (l := jhead) (i := 8) (by simp [jhead]), List.take_of_length_le (l := jhead) (by rw [← HN.out]; simp [jhead]; omega)]
  have QT : Hid (∀ W, Chg (fun _ => False) w W → (convert 29 9 (.slice A 8 c)).run Try.prog W = .ok (.string (strOf (l.take 8))) W) := fun W hW => conv_str W A 8 c (l.take 8) HQ.out ((hr.out.below hW.done).take 8)
  have qn : ∀ i, (convert 29 9 (.slice A 8 c)).run Try.prog (w.drewN i) = .ok (.string (strOf (l.take 8))) (w.drewN i) := fun i => QT.out _ ((Chg.refl _ w).drewN i)
  have ks := run_head 8 (by omega)
  have hne : ((strOf (l.take 8)).toList == (strOf (jhead.take 8)).toList) = true := by rw [str_beqJ (byt_take hb.out 8) (byt_take jhead_byt 8)]; simpa [← hh8] using hm
  have hAb : Hid (∀ y, Value.ownBlock (.slice A n c) = some y → y < w.heap.size) := fun y hy => by
    obtain ⟨ad, e, hc⟩ := hr.out 0 (by rw [← HN.out]; omega)
    subst e
    have := World.block_lt_of_cell? w _ hc
    simp [Value.ownBlock] at hy
    rw [← hy]
    exact this
  have hne2 := hne
  rw [← head_cut 8 (by omega)] at hne2
  clear hm hh8
  go_enter Try.func25, Try.ntmps25
  go_wp2_with fail
  go_quiet (fail)
  go_wp2_with fail
  refine (jnew _).mono ?_
  rintro e w1 ⟨gj, D, rfl, m1, m2, m3, m4⟩
  have M1 := Lib.hid m1
  have M2 : Hid (∀ y, D y → w.heap.size ≤ y) := fun y hy => by have := m2 y hy; simpa using this
  have M3 : Hid (w.heap.size ≤ gj) := by have := m3; simpa [Hid] using this
  have M4 : Hid (Chg (fun _ => False) w w1) := ((Chg.refl _ w).drewN _).trans m4 (fun _ _ h => h)
  clear m1 m2 m3 m4
  go_wp2_with fail
  obtain ⟨w2, hw2⟩ : ∃ w2, w2 = w1.alloc (.cells #[.slice A n c, .int .i64 8, .pointer (some ⟨gj, 0, none⟩)] 110) := ⟨_, rfl⟩
  obtain ⟨g, hg⟩ : ∃ g, g = w1.heap.size := ⟨_, rfl⟩
  have C2 : Chg (fun _ => False) w1 w2 := by rw [hw2]; exact (Chg.refl _ w1).alloc _
  have hgj : gj < g := by rw [hg]; exact M1.out.lt
  have hDg : Hid (∀ y, D y → w.heap.size ≤ y ∧ y ≠ g) := fun y hy => ⟨M2.out y hy, fun e => by have := M1.out.size y hy; omega⟩
  have O2 : Opn w2 g gj A n c l 8 := ⟨by rw [hw2, hg]; exact Blk.new _ _ _, hr.out.below (M4.out.trans C2 (fun _ _ h => h)).done, HN.out, h8, hnc, hcm, by omega, fun e => by have := hAb.out g e; have := M4.out.size; omega, fun y hy => by have := hAb.out y hy; have := (M4.out.trans C2 (fun _ _ h => h)).size; omega⟩
  have L2 : Hid (OpenL w w2 g gj A n c l 8 [] D l.length) := ⟨O2, M1.out.chg0 C2, rfl, rfl, by omega, hDg.out, M4.out.trans C2 (fun _ _ h => h)⟩
  have hgw : Hid (w.heap.size ≤ g) := by have := M4.out.size; rw [Hid]; omega
  rw [← hw2, ← hg]
  clear hw2 hg C2 O2 M1 M2 M4 hDg
  go_loopw [] (fun wr => ∃ p ls D' f, Hid (OpenL w wr g gj A n c l p ls D' f)) (fun wr => placeOf g n wr)
  case atStart => exact ⟨8, [], D, l.length, L2⟩
  case round =>
    obtain ⟨p, ls, D', f, hl⟩ := hrel
    have hgD : Hid (¬ D' g) := fun h => (hl.out.new g h).2 rfl
    have hAD : Hid (∀ y, Value.ownBlock (.slice A n c) = some y → ¬ (y = gj ∨ D' y)) := fun y hy h => by
      have h1 := hAb.out y hy
      have h2 := M3.out
      rcases h with h | h
      · omega
      · have := hl.out.new y h
        omega
    have hne : g ≠ gj := by omega
    cases hR : recRd (l.drop p) ls.length with
    | none =>
      have HR := Lib.hid hR
      clear hR
      go_wp2_with fail
      refine (recC HR (Lib.hid hl.out.opn) (Lib.hid hl.out.jn) hb (Lib.hid hl.out.len) hne hgD hAD).mono ?_
      rintro e w3 ⟨rfl, k1, k2, k3⟩
      have K1 := Lib.hid k1
      have K2 := Lib.hid k2
      have K3 : Hid (Chg (fun _ => False) w w3) := hl.out.chg.trans k3 (fun y hy e => by have := hgw.out; omega)
      have hfin : Hid (jnlRd l l.length [] 8 = (ls, p)) := by rw [Hid, ← hl.out.rd]; exact jnlRd_stop HR.out
      have c1 := K1.out.blk.at_ (i := 1) rfl
      have hDn : Hid (∀ y, D' y → w.heap.size ≤ y) := fun y hy => (hl.out.new y hy).1
      clear k1 k2 k3
      go_wp2_with fail
      go_quiet (fail)
      go_wp2_with fail
      go_ret3
      rw [hE.out, hfin.out]
      exact ⟨gj, D', rfl, K2.out.chg0 ((Chg.refl _ w3).drewN _), hDn.out, M3.out, K3.out.drewN _⟩
    | some q =>
      obtain ⟨x, sz⟩ := q
      have HR := Lib.hid hR
      clear hR
      go_wp2_with fail
      refine (recC HR (Lib.hid hl.out.opn) (Lib.hid hl.out.jn) hb (Lib.hid hl.out.len) hne hgD hAD).mono ?_
      rintro e w3 ⟨rfl, k1, D3, k2, k3, k4⟩
      have hfr := recRd_form (byt_drop hb.out p) HR.out
      obtain ⟨g1, g2, g3, g4⟩ := hfr
      have hz : 8 ≤ sz := by
        have h1 := recEnc_length ls.length x
        have h2 := recHd_length ls.length x
        have h3 := vb_pos ls.length
        have h4 := vb_pos x.body.length
        omega
      rw [List.length_drop, ← HN.out] at g4
      have hpn := hl.out.opn.le
      have hfu := hl.out.fuel
      rw [← HN.out] at hfu
      obtain ⟨f, rfl⟩ : ∃ k, f = k + 1 := ⟨f - 1, by omega⟩
      have hwr := hl.out.chg.size
      have hgwr := hl.out.opn.blk.lt
      have NL : Hid (OpenL w w3 g gj A n c l (p + sz) (ls ++ [x]) D3 f) := ⟨k1, k2, by
        rw [jnlBytes_snoc, List.length_append, hl.out.len, g2], by
        rw [← jnlRd_step HR.out]; exact hl.out.rd, by rw [← HN.out]; omega, fun y hy => by
        rcases k3 y hy with h | h
        · exact hl.out.new y h
        · exact ⟨by omega, by omega⟩, hl.out.chg.trans k4 (fun y hy e => by
        rcases e with e | e | e
        · have := hgw.out; omega
        · have := M3.out; omega
        · have := hl.out.new y e; omega)⟩
      have hm1 : placeOf g n wr = n - p := by
        unfold placeOf
        rw [hl.out.opn.blk.at_ (i := 1) rfl]
        simp
      have hm2 : placeOf g n w3 = n - (p + sz) := by
        unfold placeOf
        rw [k1.blk.at_ (i := 1) rfl]
        simp
        omega
      have hm3 : Hid (placeOf g n w3 < placeOf g n wr) := by rw [Hid, hm1, hm2]; omega
      clear k1 k2 k3 k4 g1 g2 g3 g4 hz hfu hwr hgwr hm1 hm2
      go_wp2_with fail
      go_roundw
      case rel => exact ⟨p + sz, ls ++ [x], D3, f, NL⟩
      case measure => exact hm3.out
theorem jopen {A : Option Addr} {n c : Nat} {l : List Int} {w : World} (HN : Hid (n = l.length)) (hnc : n ≤ c) (hcm : c ≤ maxLen) (hb : Hid (Byt l)) (hr : Hid (Rd w .u8 A l)) :
    Calls Try.prog 25 #[.slice A n c] w (ROpen w (jopenRes l)) := by
  by_cases h0 : 268435456 < n
  · exact jopenLong HN h0
  · by_cases hm : l.take 8 = jhead.take l.length
    · by_cases h8 : n < 8
      · exact jopenShort HN hnc hb hr hm h8
      · exact jopenFull HN hnc hcm hb hr hm (by omega) h0
    · exact jopenMagic HN hnc hb hr h0 hm
end Go.Proofs.Ytlnomadhgoblkaa.Kit
-- The journal's laws: right.
set_option linter.unusedVariables false
set_option linter.unusedSimpArgs false
namespace Go.Proofs.Ytlnomadhgoblkaa.Kit
open Go.RowKit
/-- may the record be appended? -/
def okRec (x : SecV) : Prop := 1 ≤ x.id ∧ x.id ≤ 255 ∧ x.body.length ≤ 4194304
theorem rightYes {A : Option Addr} {n c : Nat} {x : SecV} {w : World} (hn : n = x.body.length) (h : okRec x) :
    Calls Try.prog 17 #[.agg #[.int .i64 x.id, .slice A n c]] w fun e w' => e = .returned (.bool true) ∧ Chg (fun _ => False) w w' := by
  obtain ⟨h1, h2, h3⟩ := h
  have h4 : (n : Int) ≤ 4194304 := by omega
  have h5 : n ≤ 4194304 := by omega
  clear h3 hn
  go_enter Try.func17, Try.ntmps17
  go_wp2_with fail
  go_ret
  exact ⟨rfl, (Chg.refl _ w).alloc _⟩
theorem rightNo {A : Option Addr} {n c : Nat} {x : SecV} {w : World} (hn : n = x.body.length) (h : ¬ okRec x) :
    Calls Try.prog 17 #[.agg #[.int .i64 x.id, .slice A n c]] w fun e w' => e = .returned (.bool false) ∧ Chg (fun _ => False) w w' := by
  by_cases h1 : 1 ≤ x.id
  · by_cases h2 : x.id ≤ 255
    · have h3 : ¬ n ≤ 4194304 := fun h' => h ⟨h1, h2, by omega⟩
      have h4 : ¬ (n : Int) ≤ 4194304 := by omega
      clear hn h
      go_enter Try.func17, Try.ntmps17
      go_wp2_with fail
      go_ret
      exact ⟨by simp [h4], (Chg.refl _ w).alloc _⟩
    · clear hn h
      go_enter Try.func17, Try.ntmps17
      go_wp2_with fail
      go_ret
      exact ⟨rfl, (Chg.refl _ w).alloc _⟩
  · clear hn h
    go_enter Try.func17, Try.ntmps17
    go_wp2_with fail
    go_ret
    exact ⟨rfl, (Chg.refl _ w).alloc _⟩
end Go.Proofs.Ytlnomadhgoblkaa.Kit
-- The journal's laws: holds.
set_option linter.unusedVariables false
set_option linter.unusedSimpArgs false
namespace Go.Proofs.Ytlnomadhgoblkaa.Kit
open Go.RowKit
theorem holdsT {gj : Nat} {D : Nat → Prop} {A : Option Addr} {m c n : Nat} {l ls : List SecV} {w : World} (hj : Hid (Jn w D gj ls)) (hr : Hid (RdSecs w A l)) (hm : Hid (m = l.length)) (hls : Hid (ls = l.take n)) (hn : n ≤ m) (hnb : n ≤ 1073741824) (hok : Hid (∀ x ∈ ls, x.body.length ≤ 4194304)) :
    Calls Try.prog 28 #[.pointer (some ⟨gj, 0, none⟩), .slice A m c, .int .i64 n] w fun e w' => e = .returned (.bool true) ∧ Chg (fun _ => False) w w' := by
  have HN : Hid (n = ls.length) := by rw [Hid, hls.out, List.length_take, ← hm.out]; omega
  have b1 : ¬ (n : Int) > (m : Int) := by omega
  have b2 : ¬ n > m := by omega
  go_enter Try.func28, Try.ntmps28
  go_wp2_with fail
  refine (jcount D gj ls n _ HN hj).mono ?_
  rintro e w1 ⟨rfl, rfl⟩
  go_wp2_with fail
  go_loopw [7] (fun i wr => ∃ k : Nat, k ≤ n ∧ i = .int .i64 k ∧ Hid (Chg (fun _ => False) w wr)) (fun i _ => n - (intOf i).toNat)
  case atStart => exact ⟨0, Nat.zero_le _, rfl, Chg.refl _ _⟩
  case round =>
    obtain ⟨k, hk2, rfl, hc⟩ := hrel
    by_cases hlt : k < n
    · have hkl : k < l.length := by rw [← hm.out]; omega
      obtain ⟨x, hx⟩ : ∃ x, x = l[k] := ⟨_, rfl⟩
      have HX : Hid (ls[k]? = some x) := by rw [Hid, hls.out, List.getElem?_take, if_pos hlt, hx, List.getElem?_eq_getElem]
      have hxl : x.body.length ≤ 4194304 := hok.out x (List.mem_of_getElem? HX.out)
      go_wp2_with fail
      refine (jrecordOk D gj ls n k x _ HN hlt hnb HX hxl (Lib.hid (hj.out.chg0 hc.out))).mono ?_
      rintro e w2 ⟨A2, m2, c2, rfl, k1, k2, k3, k4⟩
      obtain ⟨wx, hwx⟩ : ∃ wx, wx = w2.alloc (.cells #[.int .i64 x.id, .slice A2 m2 c2] 31) := ⟨_, rfl⟩
      obtain ⟨h, hh⟩ : ∃ h, h = w2.heap.size := ⟨_, rfl⟩
      have CX : Hid (Chg (fun _ => False) w2 wx) := by rw [hwx]; exact (Chg.refl _ w2).alloc _
      have KX : Hid (Chg (fun _ => False) w wx) := (hc.out.trans k3 (fun _ _ h => h)).trans CX.out (fun _ _ h => h)
      have BX : Hid (Blk wx h 31 [.int .i64 x.id, .slice A2 m2 c2]) := by rw [hwx, hh]; exact Blk.new _ _ _
      have s0 := BX.out.at_ (i := 0) rfl
      have s1 := BX.out.at_ (i := 1) rfl
      obtain ⟨ad, e1, hs⟩ := hr.out.below KX.out.done k hkl
      subst e1
      rw [← hx] at hs
      have t0 := hs.id
      obtain ⟨A3, c3, t1, hc3, hc3m, r3⟩ := hs.body
      rw [← k2] at t1 hc3
      have HM2 := Lib.hid k2
      have R2 : Hid (∀ q, Rd (wx.drewN q) .u8 A2 x.body) := fun q => (k1.rd (by rw [k2])).below (CX.out.drewN q).done
      have R3 : Hid (∀ q, Rd (wx.drewN q) .u8 A3 x.body) := fun q => r3.below ((Chg.refl (fun _ => False) wx).drewN q).done
      have hxb : Hid (x.body.length ≤ 140737488355328) := by rw [Hid]; omega
      have q0 : (0 : Int) ≤ (k : Int) := by omega
      have q1 : (k : Int) < (m : Int) := by omega
      clear k1 k2 k3 k4 hs r3 hx
      go_wp2_with fail
      rw [← hwx, ← hh]
      clear hwx hh
      go_quiet ((go_at_call 24; exact Calls.quiet_of (sameBytes' (b := true) HM2 HM2 hxb (show Hid (Rd (wx.drewN _) _ _ _) from R2.out _) (show Hid (Rd (wx.drewN _) _ _ _) from R3.out _) (by rw [Hid]; simp))))
      go_wp2_with fail
      go_roundw
      case rel => exact ⟨k + 1, by omega, by go_num, KX.out.drewN _⟩
      case measure => simp [intOf]; omega
    · obtain rfl : k = n := by omega
      go_wp2_with fail
      refine (jrecordNo D gj ls k k _ HN (.inr (by omega)) (Lib.hid (hj.out.chg0 hc.out))).mono ?_
      rintro e w2 ⟨rfl, k1⟩
      have K1 : Hid (Chg (fun _ => False) w w2) := hc.out.trans k1 (fun _ _ h => h)
      clear k1
      go_wp2_with fail
      go_ret
      exact ⟨rfl, K1.out.alloc _⟩
end Go.Proofs.Ytlnomadhgoblkaa.Kit
-- The journal's laws: filled.
set_option linter.unusedVariables false
set_option linter.unusedSimpArgs false
namespace Go.Proofs.Ytlnomadhgoblkaa.Kit
open Go.RowKit
/-- a row of records of its own whose bodies are read -/
structure RecsR (w0 w : World) (v : Value) (l : List SecV) (bs : List Value) : Prop where
  row : OwnV w 31 2 v l.length (tCells l bs)
  lenB : bs.length = l.length
  rd : ∀ i (h : i < l.length) (hb : i < bs.length), ∃ A c, bs[i] = .slice A l[i].body.length c ∧ l[i].body.length ≤ c ∧ c ≤ maxLen ∧ Rd w0 .u8 A l[i].body
  byt : ∀ x ∈ l, Byt x.body
  rng : ∀ x ∈ l, -9223372036854775808 ≤ x.id ∧ x.id ≤ 9223372036854775807
theorem RecsR.secs {w0 w : World} {A : Option Addr} {n c : Nat} {l : List SecV} {bs : List Value} (h : RecsR w0 w (.slice A n c) l bs) (hc : Chg (fun _ => False) w0 w) : RdSecs w A l := fun i hi => by
  have hi2 : i < bs.length := by rw [h.lenB]; omega
  obtain ⟨g1, g2⟩ := tCells_get l bs i hi hi2
  have hnn : n = l.length := by
    obtain ⟨A', c', hv, _⟩ := h.row.slice
    injection hv with _ hn _
  have hrow := h.row
  rw [← hnn] at hrow
  obtain ⟨ad, rfl, k1, _⟩ := hrow.cells _ _ _ rfl _ _ g1
  obtain ⟨ad', e', k2, _⟩ := hrow.cells _ _ _ rfl _ _ g2
  injection e' with e'
  subst e'
  obtain ⟨Ab, cb, hv, h1, h2, h3⟩ := h.rd i hi hi2
  refine ⟨ad, rfl, k1, ⟨Ab, cb, ?_, h1, h2, h3.below hc.done⟩, h.byt _ (List.getElem_mem hi), h.rng _ (List.getElem_mem hi)⟩
  rw [show (⟨(ad.add (i * 2)).block, (ad.add (i * 2)).off + 1, none⟩ : Addr) = (ad.add (i * 2)).add 1 from rfl, Go.Deep.add_add, ← hv]
  exact k2
theorem RecsR.nil (w0 w : World) : RecsR w0 w (.slice none 0 0) [] [] := ⟨OwnV.nil _ _ _, rfl, fun i hi => absurd hi (by simp), fun x hx => absurd hx (by simp), fun x hx => absurd hx (by simp)⟩
theorem RecsR.chg {w0 w w1 : World} {v : Value} {l : List SecV} {bs : List Value} {S : Nat → Prop} (h : RecsR w0 w v l bs) (k : Chg S w w1) (hS : ∀ y, v.ownBlock = some y → ¬ S y) : RecsR w0 w1 v l bs := ⟨h.row.chg k hS, h.lenB, h.rd, h.byt, h.rng⟩
theorem RecsR.snoc {w0 w w1 : World} {v v' : Value} {l : List SecV} {bs : List Value} {x : SecV} {A : Option Addr} {n c : Nat} (h : RecsR w0 w v l bs) (hr : OwnV w1 31 2 v' (l.length + 1) (tCells l bs ++ [.int .i64 x.id, .slice A n c])) (hn : n = x.body.length) (hnc : n ≤ c) (hc : c ≤ maxLen) (hrd : Rd w0 .u8 A x.body) (hb : Byt x.body) (hg : -9223372036854775808 ≤ x.id ∧ x.id ≤ 9223372036854775807) : RecsR w0 w1 v' (l ++ [x]) (bs ++ [.slice A n c]) := by
  refine ⟨?_, by simp [h.lenB], fun i hi hb' => ?_, fun y hy => ?_, fun y hy => ?_⟩
  · rw [tCells_snoc _ _ _ _ h.lenB.symm, List.length_append]
    exact hr
  · by_cases hlt : i < l.length
    · have hlb : i < bs.length := by rw [h.lenB]; exact hlt
      obtain ⟨A', c', e, h1, h2, h3⟩ := h.rd i hlt hlb
      refine ⟨A', c', ?_, ?_⟩
      · rw [List.getElem_append_left hlb, List.getElem_append_left hlt]
        exact e
      · rw [List.getElem_append_left hlt]
        exact ⟨h1, h2, h3⟩
    · have hil : i = l.length := by
        rw [List.length_append, List.length_singleton] at hi
        omega
      subst hil
      refine ⟨A, c, ?_, ?_⟩
      · rw [List.getElem_append_right (by rw [h.lenB]; omega), List.getElem_append_right (by omega)]
        simp [hn]
      · rw [List.getElem_append_right (by omega)]
        simp only [Nat.sub_self, List.getElem_cons_zero]
        exact ⟨by rw [← hn]; exact hnc, hc, hrd⟩
  · rcases List.mem_append.1 hy with hy | hy
    · exact h.byt y hy
    · rw [List.mem_singleton.1 hy]
      exact hb
  · rcases List.mem_append.1 hy with hy | hy
    · exact h.rng y hy
    · rw [List.mem_singleton.1 hy]
      exact hg
/-- what a list of records leaves in a journal -/
def jfill (l : List SecV) : List SecV := l.foldl (fun acc x => (jappRes acc x).2) []
theorem jfill_snoc (l : List SecV) (x : SecV) : jfill (l ++ [x]) = (jappRes (jfill l) x).2 := by
  rw [jfill, List.foldl_append]
  rfl
theorem jappRes_cases (l : List SecV) (x : SecV) : (¬ okRec x ∧ ((jappRes l x = (1, l)) ∨ jappRes l x = (6, l))) ∨ (okRec x ∧ ((268435456 < (jnlBytes l).length + (recEnc l.length x).length ∧ jappRes l x = (4, l)) ∨ (¬ 268435456 < (jnlBytes l).length + (recEnc l.length x).length ∧ jappRes l x = (0, l ++ [x])))) := by
  unfold jappRes okRec
  by_cases h1 : x.id < 1 ∨ 255 < x.id
  · rw [if_pos h1]
    exact .inl ⟨fun h => by omega, .inl rfl⟩
  · rw [if_neg h1]
    by_cases h2 : 4194304 < x.body.length
    · rw [if_pos h2]
      exact .inl ⟨fun h => by omega, .inr rfl⟩
    · rw [if_neg h2]
      refine .inr ⟨by omega, ?_⟩
      by_cases h3 : 268435456 < (jnlBytes l).length + (recEnc l.length x).length
      · rw [if_pos h3]
        exact .inl ⟨h3, rfl⟩
      · rw [if_neg h3]
        exact .inr ⟨h3, rfl⟩
end Go.Proofs.Ytlnomadhgoblkaa.Kit
