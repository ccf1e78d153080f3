/- The law RingPicks: the walk. -/
import Derived.Test.YtbcmmmcbineipaaDoorRfH
import Derived.Test.YtbcmmmcbineipaaDoorMg
import Derived.Deep.DeepCutAuto
set_option linter.unusedVariables false
set_option linter.unusedSimpArgs false
namespace Go.Proofs.YtbcmmmcbineipaaDoor
open Go.RowKit Go.Proofs.YtbcmmmcbineipaaDoorW.PrintWords Go.Proofs.YtbcmmmcbineipaaDoorW.PrintLast Go.Proofs.YtbcmmmcbineipaaDoorW.PrintMore
open Go.Proofs.YtbcmmmcbineipaaDoor.PR

theorem frm_lt (L : List S67) (x : Int) (h : 0 < L.length) : frm L x < L.length := by
  have h1 : lowb L x ≤ L.length := (List.takeWhile_prefix _).length_le
  unfold frm
  split
  · exact h
  · omega
theorem pick_eq (L : List S67) (x : Int) (h : 0 < L.length) : pick L x = (L[frm L x]'(frm_lt L x h)).f1 := by
  have h1 := frm_lt L x h
  unfold pick
  rw [rnd_rot L _ (.inl h1), List.drop_eq_getElem_cons h1]
  rfl
theorem pick_nil (L : List S67) (x : Int) (h : L.length = 0) : pick L x = ⟨#[]⟩ := by
  obtain rfl := List.eq_nil_of_length_eq_zero h
  rfl
theorem same_self (l : List ByteArray) (hl : l.length ≤ 1000000) (d : Nat) : ∀ i : Nat, i + d = l.length → stewardlaw05_Same.l0 (d + 1) l l (l.length : Int) i = some true := by
  induction d with
  | zero =>
    intro i hi
    rw [stewardlaw05_Same.l0, if_neg (by omega)]
  | succ d ih =>
    intro i hi
    have e2 : wrap64 ((i : Int) + 1) = ((i + 1 : Nat) : Int) := by unfold wrap64; omega
    rw [stewardlaw05_Same.l0, if_pos (by omega), if_pos (by omega), if_pos (by omega), if_pos (by omega), if_pos rfl, e2]
    exact ih (i + 1) (by omega)
theorem same_f (l : List ByteArray) (hl : l.length ≤ 1000000) : stewardlaw05_Same.f (l.length + 1) l l = some true := by
  unfold stewardlaw05_Same.f
  rw [if_pos rfl]
  exact same_self l hl l.length 0 (by omega)
set_option maxHeartbeats 1000000 in
set_option maxRecDepth 100000 in
theorem picks_calls (s : ByteArray) (A : Option Addr) (c : Nat) (l : List S46) (x : Int) (w0 : World) (hr : Kd.C k46 w0 A l.length l) (hc : l.length ≤ c) :
    Calls Tryd.prog 5 #[.string s, .slice A l.length c, .int .u64 x] w0 fun e w' => e = .returned (.bool true) ∧ Below w0.heap.size w0 w' := by
  have HR := Lib.hid hr
  clear hr
  go_enter Tryd.func5, Tryd.ntmps5
  go_wp2_with fail
  refine (awake_calls _).mono ?_
  rintro e w1 ⟨rfl, hb1⟩
  have HB1 := Lib.hid hb1
  clear hb1
  go_wp2_with fail
  have h6 : stewardlaw18_Few.f (min l.length 5 + 1) l 5 = some (fewOf l 5) := few_f l 5 (by omega)
  refine (stewardlaw18_Few.calls _ A c l 5 (fewOf l 5) w1 (Kd.C_below HR.out HB1.out) hc h6).mono ?_
  rintro e w2 ⟨v2, rfl, hR2, hb2⟩
  obtain ⟨A2, c2', rfl, hc2, hC2⟩ := Kd.R_reads hR2
  have HB2 : Hid (Below w0.heap.size w0 w2) := HB1.out.trans (hb2.mono HB1.out.size)
  have hX5 := fewOf_length l 5
  have hXs := fewOf_size l 5
  obtain ⟨X, HX⟩ : ∃ X : List S46, Hid (X = fewOf l 5) := ⟨_, rfl⟩
  simp only [← HX.out] at hc2 hC2 hX5 hXs ⊢
  have HC2 := Lib.hid hC2
  have HXS := Lib.hid hXs
  clear hR2 hb2 hC2 hXs HB1 h6
  go_wp2_with fail
  refine (keyOf_calls _ _).mono ?_
  rintro e w7 ⟨rfl, hb7⟩
  obtain ⟨kb, Hkb⟩ : ∃ kb : List Int, Hid (kb = keyOf s) := ⟨_, rfl⟩
  have hkb : kb.length = 16 := by rw [Hkb.out]; exact keyOf_length _
  have HOKB : Hid (okB kb) := by rw [Hkb.out]; exact okB_keyOf s
  rw [← Hkb.out]
  obtain ⟨kl, Hkl⟩ : ∃ kl : List Value, Hid (kl = nums .u8 kb) := ⟨_, rfl⟩
  have hkl : kl.length = 16 := by rw [Hkl.out]; simp [nums, hkb]
  have hk1 : ∀ v ∈ kl, v.oneCell' = true := by
    rw [Hkl.out]
    intro v hv
    obtain ⟨i, _, rfl⟩ := List.mem_map.1 hv
    rfl
  rw [← Hkl.out]
  have hu := Tryd.underlying26
  have hi : (Tryd.prog.info? 26).map (·.size) = some kl.length := by rw [hkl]; kernel_rfl
  have HB9 : Hid (Below w0.heap.size w0 w7) := HB2.out.trans (hb7.mono HB2.out.size)
  have HCX9 := Lib.hid (Kd.C_below HC2.out hb7)
  clear hb7 HB2 HC2
  have hnew := heap_alloc_new w7 (.cells (List.replicate 16 (Value.int .u8 0)).toArray 26)
  have hth : (w7.alloc (.cells (List.replicate 16 (Value.int .u8 0)).toArray 26)).there w7.heap.size 0 kl.toArray.size := fun j hj => by
    have hj' : j < 16 := by rw [← hkl]; simpa using hj
    refine ⟨?_, blk_frozen hnew _⟩
    rw [Nat.zero_add, blk_cell hnew]
    simp [hj']
  have HTH := Lib.hid hth
  have his : (Tryd.prog.info? 26).map (·.size) = some kl.toArray.size := by rw [hi]; simp
  clear hth hnew
  go_wp2_with (first | (refine Go.wpList_store_mid rfl 26 (.tmp 8) (.tmp 18) rfl w7.heap.size 0 kl.toArray rfl rfl HTH.out his (all_oneCell_toArray hk1) ?_))
  have hB8' : Below w7.heap.size w7 ((w7.alloc (.cells (List.replicate 16 (Value.int .u8 0)).toArray 26)).setCells w7.heap.size 0 kl) := by
    obtain ⟨s1, s2, s3, s4⟩ := setCells_same w7.heap.size kl 0 (w7.alloc (.cells (List.replicate 16 (Value.int .u8 0)).toArray 26))
    exact ⟨s1, s2, s3, by rw [s4, World.size_alloc]; omega, fun k hk => (setCells_far kl _ k (by omega)).trans (Below.heap_alloc w7 _ k hk)⟩
  have rK := World.rangeAt_setCells_same (w7.alloc (.cells (List.replicate 16 (Value.int .u8 0)).toArray 26)) w7.heap.size 0 kl (by have := HTH.out; simpa using this)
  change Code.wp _ _ _ _ ((w7.alloc (.cells (List.replicate 16 (Value.int .u8 0)).toArray 26)).setCells w7.heap.size 0 kl)
  generalize (w7.alloc (.cells (List.replicate 16 (Value.int .u8 0)).toArray 26)).setCells w7.heap.size 0 kl = w8 at hB8' rK ⊢
  have HB10 : Hid (Below w0.heap.size w0 w8) := HB9.out.trans (hB8'.mono HB9.out.size)
  have HCX10 := Lib.hid (Kd.C_below HCX9.out hB8')
  have HCXd : Hid (Kd.C k46 w8.drew A2 X.length X) := Kd.C_below HCX10.out (Below.refl _ _).drew
  clear hB8' HCX9 HB9 his
  have hs13 : ∀ e ∈ X, e.f0.size ≤ 140737488354000 := fun e he => Nat.le_trans (HXS.out e he) (by omega)
  have hgood := chk_good X (by omega) (fun e he => Nat.le_trans (HXS.out e he) (by unfold maxLen; omega))
  obtain ⟨kr, rr, href, hr01, hrg⟩ := ref_check X (by omega)
  have hox := fun (w : World) (h : Kd.C k46 w A2 X.length X) => own_calls A2 c2' X w h hc2 (by omega)
  have HOX := Lib.hid hox
  have HREF := Lib.hid href
  clear hox href
  by_cases hz : chk X = 0
  · have hgd := hgood.1 hz
    obtain rfl : rr = 0 := hrg.2 hgd
    have HGD := Lib.hid hgd
    have hbx := fun (B : Option Addr) (d : Nat) (w : World) (h : Kd.C k46 w B X.length X) (hd : X.length ≤ d) => build_calls kb B d X 10 w hkb h hd (by omega) hs13 (by omega) hgd.2 hz
    rw [← Hkl.out] at hbx
    have HBX := Lib.hid hbx
    clear hbx hz hgood hrg hr01 hs13 hgd
    go_region_held3 (fun w' => w'.rangeAt w7.heap.size 0 kl)
      (first
        | exact rK
        | exact range_later hb9 rK
        | exact range_later hb10 (range_later hb9 rK))
      (first
        | (go_at_call 11; refine (HOX.out w8.drew HCXd.out).mono ?_; rintro e w9 ⟨⟨A4, c4, rfl, hc4, hC4⟩, hb9⟩)
        | (go_at_call 10; refine (HBX.out A4 c4 _ hC4 hc4).mono ?_; rintro e w10 ⟨⟨g1, rfl, hg1, hR1⟩, hb10⟩))
    have hB8 : Below w8.heap.size w8 w10 := by
      have h1 : Below w8.heap.size w8 w9 := (Below.refl w8.heap.size w8).drew.trans hb9
      exact h1.trans (hb10.mono h1.size)
    have HB11 : Hid (Below w0.heap.size w0 w10) := HB10.out.trans (hB8.mono HB10.out.size)
    have HCX11 := Lib.hid (Kd.C_below HCX10.out hB8)
    have rK2 : w10.rangeAt w7.heap.size 0 kl := range_later hB8 rK
    have hlen : (ptSort (rawPts kb 10 X)).length ≤ 1000000 := by obtain ⟨_, _, _, _, _, h⟩ := hR1; exact h
    obtain ⟨L, HL⟩ : ∃ L : List S67, Hid (L = ptSort (rawPts kb 10 X)) := ⟨_, rfl⟩
    rw [← HL.out] at hR1 hlen
    have HR11 := Lib.hid hR1
    clear hB8 hb9 hb10 hC4 rK HCX10 HCXd HBX HOX HB10 hR1 hg1
    try refine NoPanic.normal ?_
    try clear hHeld
    go_wp2_with fail
    refine (stewardref19_Check.calls kr A2 c2' X 0 w10 HCX11.out hc2 HREF.out).mono ?_
    rintro e w11 ⟨rfl, hb11⟩
    have HB12 : Hid (Below w0.heap.size w0 w11) := HB11.out.trans (hb11.mono HB11.out.size)
    have HCX12 := Lib.hid (Kd.C_below HCX11.out hb11)
    have HR12 := Lib.hid (HR11.out.below hb11)
    have rK3 : w11.rangeAt w7.heap.size 0 kl := range_later hb11 rK2
    have HRK := Lib.hid rK3
    clear HB11 HCX11 HR11 rK2 hb11 rK3
    have hso := ringAsc (rawPts kb 10 X)
    have hnm : ∀ p ∈ ptSort (rawPts kb 10 X), p.f1.size ≤ maxLen := fun p hp => by
      obtain ⟨e, he, hpe⟩ := List.mem_flatMap.1 ((ptSort_perm _).mem_iff.1 hp)
      rw [pts_name _ _ _ _ _ hpe]
      exact Nat.le_trans (HXS.out e he) (by unfold maxLen; omega)
    have HSO : Hid (∀ (a b : Nat) (ha : a ≤ b) (hb : b < L.length), L[a].f0 ≤ L[b].f0) := by
      have e := HL.out
      subst e
      exact hso
    have HNM : Hid (∀ p ∈ L, p.f1.size ≤ maxLen) := by rw [HL.out]; exact hnm
    clear hso hnm
    have hkc : Kd.C (Kd.int .u8) w11 (some ⟨w7.heap.size, 0, none⟩) 16 kb := by
      have h := Kd.C_of_reads (enc := Value.int .u8) (h1 := fun _ => rfl) (w := w11) (A := some ⟨w7.heap.size, 0, none⟩) (n := kb.length) (xs := kb) (d := (0 : Int)) ⟨rfl, (by omega), fun hp => ⟨_, rfl, fun j hj => by
        have h := HRK.out j (.int .u8 (kb.getD j 0)) (by rw [Hkl.out]; simp [nums, List.getD_eq_getElem?_getD, List.getElem?_eq_getElem hj])
        rw [add_at]
        exact h⟩⟩
      rwa [hkb] at h
    have hcv := fun (c : Nat) => Kd.C_string (P := Tryd.prog) (src := 37) (dst := 9) (e := 5) (c := c) Tryd.underlying37 Tryd.underlying5 Tryd.underlying9 hkc
    clear hkc
    obtain ⟨ks, Hks⟩ : ∃ ks : ByteArray, Hid (ks = strOfNums kb) := ⟨_, rfl⟩
    rw [← Hks.out] at hcv
    have hks : ks.size = 16 := by rw [Hks.out, strOfNums_size]; exact hkb
    have hrb := fun (w : World) (h : Kd.C k46 w A2 X.length X) => rbuild_calls ks A2 c2' X 10 w hks h hc2 (by omega) (fun e he => Nat.le_trans (HXS.out e he) (by omega)) (by omega) HGD.out.2
    have hkb2 : bytesOf ks = kb := by rw [Hks.out]; exact bytes_of_nums kb HOKB.out
    rw [hkb2, ← HL.out] at hrb
    have HRB := Lib.hid hrb
    clear hrb hkb2
    go_wp2_with fail
    refine (HRB.out _ HCX12.out).mono ?_
    rintro e w13 ⟨⟨v13, rfl, hO13⟩, hb13⟩
    obtain ⟨A13, c13, rfl, hc13, hC13⟩ := own_pts41 hO13 rfl
    have HB14 : Hid (Below w0.heap.size w0 w13) := HB12.out.trans (hb13.mono HB12.out.size)
    have HR14 := Lib.hid (HR12.out.below hb13)
    have HP14 := Lib.hid hC13
    clear hb13 hO13 hC13 HB12 HR12 HCX12 HRK HRB hcv hks HREF
    go_upto_if 39 with fail
    go_cut [12] (fun s12 wx => s12 = .string (pick L x) ∧ Hid (RingAt wx g1 L) ∧ Hid (Kd.C k41 wx A13 L.length (L.map to41)) ∧ Hid (Below w0.heap.size w0 wx))
    case first =>
      by_cases hL : 0 < L.length
      · have hd : decide (0 < L.length) = true := decide_eq_true hL
        have hfl := frm_lt L x hL
        have hpe := pick_eq L x hL
        obtain ⟨q, Hq⟩ : ∃ q : Nat, Hid (q = frm L x) := ⟨_, rfl⟩
        have hfr := rfrom_calls A13 c13 L x w13 HP14.out hc13 (by omega) HSO.out
        rw [← Hq.out] at hfr
        have hql : q < L.length := by rw [Hq.out]; exact hfl
        have hpe2 : pick L x = L[q].f1 := by rw [hpe]; congr 1; exact getElem_congr_idx Hq.out.symm
        have HFR := Lib.hid hfr
        have HPE := Lib.hid hpe2
        clear hfr hpe hpe2 hfl
        go_wp2_with fail
        refine HFR.out.mono ?_
        rintro e w15 ⟨rfl, hb15⟩
        have HB15 : Hid (Below w0.heap.size w0 w15) := HB14.out.trans (hb15.mono HB14.out.size)
        have HR15 := Lib.hid (HR14.out.below hb15)
        have HP15 := Lib.hid (Kd.C_below HP14.out hb15)
        clear hb15 HB14 HR14 HP14
        obtain ⟨ad, hAd, hc0, hc1⟩ := p41_at HP15.out q hql
        subst hAd
        rw [← HPE.out] at hc1
        have b1 : (q : Int) < (L.length : Int) := by omega
        have b2 : (0 : Int) ≤ (q : Int) := by omega
        clear hc0
        go_wp2_with fail
        go_meet
        exact ⟨rfl, HR15, HP15, HB15⟩
      · have hd : decide (0 < L.length) = false := decide_eq_false hL
        have h0 : L.length = 0 := by omega
        have HPE := Lib.hid (pick_nil L x h0)
        have hL0 := Lib.hid h0
        have hd2 : decide ((0 : Int) < (L.length : Int)) = false := decide_eq_false (by omega)
        clear h0
        go_wp2_with fail
        go_meet
        exact ⟨by rw [HPE.out], HR14, HP14, HB14⟩
    case rest =>
      obtain ⟨rfl, HR16, HP16, HB16⟩ := hcut
      clear HR14 HP14 HB14
      have hpk := fun (w : World) (h : RingAt w g1 L) => pick_calls g1 L x w h HSO.out
      have hwk := fun (w : World) (h : RingAt w g1 L) => walk_calls g1 L x w h HSO.out HNM.out
      have hrw := fun (w : World) (h : Kd.C k41 w A13 L.length (L.map to41)) => rwalk_calls A13 c13 L x w h hc13 (by omega) HSO.out
      have hwl : (walkN L x).length ≤ 1000000 := by
        have := firsts_length ((rnd L (frm L x)).map (·.f1))
        rw [List.length_map, rnd_length] at this
        show (firsts _).length ≤ _
        omega
      obtain ⟨N, HN⟩ : ∃ N : List ByteArray, Hid (N = walkN L x) := ⟨_, rfl⟩
      rw [← HN.out] at hwl
      simp only [← HN.out] at hwk hrw
      obtain ⟨pk, Hpk⟩ : ∃ pk : ByteArray, Hid (pk = pick L x) := ⟨_, rfl⟩
      rw [← Hpk.out]
      simp only [← Hpk.out] at hpk
      have HPK := Lib.hid hpk
      have HWK := Lib.hid hwk
      have HRW := Lib.hid hrw
      clear hpk hwk hrw
      go_wp2_with fail
      refine (HPK.out _ HR16.out).mono ?_
      rintro e w17 ⟨rfl, hb17⟩
      have HB17 : Hid (Below w0.heap.size w0 w17) := HB16.out.trans (hb17.mono HB16.out.size)
      have HR17 := Lib.hid (HR16.out.below hb17)
      have HP17 := Lib.hid (Kd.C_below HP16.out hb17)
      clear hb17 HB16 HR16 HP16 HPK
      have hself : (pk.toList == pk.toList) = true := by simp
      go_wp2_with fail
      refine (HWK.out _ HR17.out).mono ?_
      rintro e w18 ⟨⟨A18, c18, rfl, hc18, hC18⟩, hb18⟩
      have HB18 : Hid (Below w0.heap.size w0 w18) := HB17.out.trans (hb18.mono HB17.out.size)
      have HP18 := Lib.hid (Kd.C_below HP17.out hb18)
      have HC18 := Lib.hid hC18
      clear hb18 HB17 HR17 HP17 HWK hC18
      go_wp2_with fail
      refine (HRW.out _ HP18.out).mono ?_
      rintro e w19 ⟨⟨A19, c19, rfl, hc19, hC19⟩, hb19⟩
      have HB19 : Hid (Below w0.heap.size w0 w19) := HB18.out.trans (hb19.mono HB18.out.size)
      have HC18 := Lib.hid (Kd.C_below HC18.out hb19)
      have HC19 := Lib.hid hC19
      clear hb19 HB18 HP18 HRW hC19
      go_wp2_with fail
      refine (stewardlaw05_Same.calls (N.length + 1) A18 c18 N A19 c19 N true w19 HC18.out hc18 HC19.out hc19 (same_f N hwl)).mono ?_
      rintro e w20 ⟨rfl, hd20⟩
      have HB20 : Hid (Below w0.heap.size w0 w20) := HB19.out.trans (hd20.below.mono HB19.out.size)
      clear hd20
      go_wp2_with fail
      go_ret
      exact ⟨rfl, HB20.out⟩
  · have hz1 : chk X = 1 := (chk_01 X).resolve_left hz
    obtain rfl : rr = 1 := hr01.resolve_left (fun h => hz (hgood.2 (hrg.1 h)))
    have hbx := fun (B : Option Addr) (d : Nat) (w : World) (h : Kd.C k46 w B X.length X) (hd : X.length ≤ d) => build_fails kl.toArray B d X 10 w h hd (by omega) hs13 hz
    simp only [hz1] at hbx
    have HBX := Lib.hid hbx
    clear hbx hz hz1 hgood hrg hr01 hs13
    go_region_held3 (fun w' => w'.rangeAt w7.heap.size 0 kl)
      (first
        | exact rK
        | exact range_later hb9 rK
        | exact range_later hb10 (range_later hb9 rK))
      (first
        | (go_at_call 11; refine (HOX.out w8.drew HCXd.out).mono ?_; rintro e w9 ⟨⟨A4, c4, rfl, hc4, hC4⟩, hb9⟩)
        | (go_at_call 10; refine (HBX.out A4 c4 _ hC4 hc4).mono ?_; rintro e w10 ⟨rfl, hb10⟩))
    have hB8 : Below w8.heap.size w8 w10 := by
      have h1 : Below w8.heap.size w8 w9 := (Below.refl w8.heap.size w8).drew.trans hb9
      exact h1.trans (hb10.mono h1.size)
    have HB11 : Hid (Below w0.heap.size w0 w10) := HB10.out.trans (hB8.mono HB10.out.size)
    have HCX11 := Lib.hid (Kd.C_below HCX10.out hB8)
    clear hB8 hb9 hb10 hC4 rK HCX10 HCXd HBX HOX HB10
    try refine NoPanic.normal ?_
    go_wp2_with fail
    refine (stewardref19_Check.calls kr A2 c2' X 1 w10 HCX11.out hc2 HREF.out).mono ?_
    rintro e w11 ⟨rfl, hb11⟩
    have HB12 : Hid (Below w0.heap.size w0 w11) := HB11.out.trans (hb11.mono HB11.out.size)
    clear HB11 HCX11 hb11
    go_wp2_with fail
    go_ret
    exact ⟨rfl, HB12.out⟩
end Go.Proofs.YtbcmmmcbineipaaDoor
