/- The law RingBuilds: the walk. -/
import Derived.Test.YtbcmmmcbineipaaDoorRfF
import Derived.Test.YtbcmmmcbineipaaDoorMg
set_option linter.unusedVariables false
set_option linter.unusedSimpArgs false
namespace Go.Proofs.YtbcmmmcbineipaaDoor
open Go.RowKit Go.Proofs.YtbcmmmcbineipaaDoorW.PrintWords Go.Proofs.YtbcmmmcbineipaaDoorW.PrintLast Go.Proofs.YtbcmmmcbineipaaDoorW.PrintMore
open Go.Proofs.YtbcmmmcbineipaaDoor.PR

set_option maxHeartbeats 1000000 in
set_option maxRecDepth 100000 in
theorem builds_calls (s : ByteArray) (A : Option Addr) (c : Nat) (l : List S46) (per0 : Int) (w0 : World) (hr : Kd.C k46 w0 A l.length l) (hc : l.length ≤ c) :
    Calls Tryd.prog 3 #[.string s, .slice A l.length c, .int .i64 per0] w0 fun e w' => e = .returned (.bool true) ∧ Below w0.heap.size w0 w' := by
  have HR := Lib.hid hr
  clear hr
  have hm15 := and15_range per0
  obtain ⟨m, Hm⟩ : ∃ m : Int, Hid (m = Go.bits .and .i64 per0 15) := ⟨_, rfl⟩
  rw [← Hm.out] at hm15
  have hme := Hm.out.symm
  have hwm : IntKind.i64.wrap (20 + m) = 20 + m := by unfold IntKind.wrap; simp [IntKind.bits, IntKind.signed]; omega
  obtain ⟨per, Hper⟩ : ∃ per : Int, Hid (per = if 20 < per0 then 20 + m else per0) := ⟨_, rfl⟩
  have hper : per ≤ 99 := by rw [Hper.out]; split <;> omega
  go_enter Tryd.func3, Tryd.ntmps3
  go_wp2_with fail
  refine (awake_calls _).mono ?_
  rintro e w1 ⟨rfl, hb1⟩
  have HB1 := Lib.hid hb1
  clear hb1
  go_wp2_with fail
  have h6 : stewardlaw18_Few.f (min l.length 5 + 1) l 5 = some (fewOf l 5) := few_f l 5 (by omega)
  refine (stewardlaw18_Few.calls _ A c l 5 (fewOf l 5) w1 (Kd.C_below HR.out HB1.out) hc h6).mono ?_
  rintro e w2 ⟨v2, rfl, hR2, hb2⟩
  obtain ⟨A2, c2', rfl, hc2, hC2⟩ := Kd.R_reads hR2
  have HB2 : Hid (Below w0.heap.size w0 w2) := HB1.out.trans (hb2.mono HB1.out.size)
  have hX5 := fewOf_length l 5
  have hXs := fewOf_size l 5
  obtain ⟨X, HX⟩ : ∃ X : List S46, Hid (X = fewOf l 5) := ⟨_, rfl⟩
  simp only [← HX.out] at hc2 hC2 hX5 hXs ⊢
  have HC2 := Lib.hid hC2
  have HXS := Lib.hid hXs
  clear hR2 hb2 hC2 hXs HB1 h6
  go_upto_if 24 with fail
  go_cut [2] (fun s2 wx => s2 = .int .i64 per ∧ wx = w2)
  case first =>
    by_cases h20 : 20 < per0
    · have hd : decide (20 < per0) = true := decide_eq_true h20
      go_wp2_with fail
      go_meet
      exact ⟨by rw [Hper.out, if_pos h20], rfl⟩
    · have hd : decide (20 < per0) = false := decide_eq_false h20
      go_wp2_with fail
      go_meet
      exact ⟨by rw [Hper.out, if_neg (by omega)], rfl⟩
  case rest =>
    obtain ⟨rfl, rfl⟩ := hcut
    clear hme hwm
    go_wp2_with fail
    refine (keyOf_calls _ _).mono ?_
    rintro e w7 ⟨rfl, hb7⟩
    obtain ⟨kb, Hkb⟩ : ∃ kb : List Int, Hid (kb = keyOf s) := ⟨_, rfl⟩
    have hkb : kb.length = 16 := by rw [Hkb.out]; exact keyOf_length _
    have HOKB : Hid (okB kb) := by rw [Hkb.out]; exact okB_keyOf s
    rw [← Hkb.out]
    obtain ⟨kl, Hkl⟩ : ∃ kl : List Value, Hid (kl = nums .u8 kb) := ⟨_, rfl⟩
    have hkl : kl.length = 16 := by rw [Hkl.out]; simp [nums, hkb]
    have hk1 : ∀ v ∈ kl, v.oneCell' = true := by
      rw [Hkl.out]
      intro v hv
      obtain ⟨i, _, rfl⟩ := List.mem_map.1 hv
      rfl
    rw [← Hkl.out]
    have hu := Tryd.underlying26
    have hi : (Tryd.prog.info? 26).map (·.size) = some kl.length := by rw [hkl]; kernel_rfl
    have HB9 : Hid (Below w0.heap.size w0 w7) := HB2.out.trans (hb7.mono HB2.out.size)
    have HCX9 := Lib.hid (Kd.C_below HC2.out hb7)
    clear hb7 HB2 HC2
    have hnew := heap_alloc_new w7 (.cells (List.replicate 16 (Value.int .u8 0)).toArray 26)
    have hth : (w7.alloc (.cells (List.replicate 16 (Value.int .u8 0)).toArray 26)).there w7.heap.size 0 kl.toArray.size := fun j hj => by
      have hj' : j < 16 := by rw [← hkl]; simpa using hj
      refine ⟨?_, blk_frozen hnew _⟩
      rw [Nat.zero_add, blk_cell hnew]
      simp [hj']
    have HTH := Lib.hid hth
    have his : (Tryd.prog.info? 26).map (·.size) = some kl.toArray.size := by rw [hi]; simp
    clear hth hnew
    go_wp2_with (first | (refine Go.wpList_store_mid rfl 26 (.tmp 8) (.tmp 29) rfl w7.heap.size 0 kl.toArray rfl rfl HTH.out his (all_oneCell_toArray hk1) ?_))
    have hB8' : Below w7.heap.size w7 ((w7.alloc (.cells (List.replicate 16 (Value.int .u8 0)).toArray 26)).setCells w7.heap.size 0 kl) := by
      obtain ⟨s1, s2, s3, s4⟩ := setCells_same w7.heap.size kl 0 (w7.alloc (.cells (List.replicate 16 (Value.int .u8 0)).toArray 26))
      exact ⟨s1, s2, s3, by rw [s4, World.size_alloc]; omega, fun k hk => (setCells_far kl _ k (by omega)).trans (Below.heap_alloc w7 _ k hk)⟩
    have rK := World.rangeAt_setCells_same (w7.alloc (.cells (List.replicate 16 (Value.int .u8 0)).toArray 26)) w7.heap.size 0 kl (by have := HTH.out; simpa using this)
    change Code.wp _ _ _ _ ((w7.alloc (.cells (List.replicate 16 (Value.int .u8 0)).toArray 26)).setCells w7.heap.size 0 kl)
    generalize (w7.alloc (.cells (List.replicate 16 (Value.int .u8 0)).toArray 26)).setCells w7.heap.size 0 kl = w8 at hB8' rK ⊢
    have HB10 : Hid (Below w0.heap.size w0 w8) := HB9.out.trans (hB8'.mono HB9.out.size)
    have HCX10 := Lib.hid (Kd.C_below HCX9.out hB8')
    have HCXd : Hid (Kd.C k46 w8.drew A2 X.length X) := Kd.C_below HCX10.out (Below.refl _ _).drew
    clear hB8' HCX9 HB9 his
    have hs13 : ∀ e ∈ X, e.f0.size ≤ 140737488354000 := fun e he => Nat.le_trans (HXS.out e he) (by omega)
    have hgood := chk_good X (by omega) (fun e he => Nat.le_trans (HXS.out e he) (by unfold maxLen; omega))
    obtain ⟨kr, rr, href, hr01, hrg⟩ := ref_check X (by omega)
    have hox := fun (w : World) (h : Kd.C k46 w A2 X.length X) => own_calls A2 c2' X w h hc2 (by omega)
    have HOX := Lib.hid hox
    have HREF := Lib.hid href
    clear hox href
    by_cases hz : chk X = 0
    · have hgd := hgood.1 hz
      obtain rfl : rr = 0 := hrg.2 hgd
      have HGD := Lib.hid hgd
      have hbx := fun (B : Option Addr) (d : Nat) (w : World) (h : Kd.C k46 w B X.length X) (hd : X.length ≤ d) => build_calls kb B d X per w hkb h hd (by omega) hs13 hper hgd.2 hz
      rw [← Hkl.out] at hbx
      have HBX := Lib.hid hbx
      clear hbx hz hgood hrg hr01 hs13 hgd
      go_region_held3 (fun w' => w'.rangeAt w7.heap.size 0 kl)
        (first
          | exact rK
          | exact range_later hb9 rK
          | exact range_later hb10 (range_later hb9 rK))
        (first
          | (go_at_call 11; refine (HOX.out w8.drew HCXd.out).mono ?_; rintro e w9 ⟨⟨A4, c4, rfl, hc4, hC4⟩, hb9⟩)
          | (go_at_call 10; refine (HBX.out A4 c4 _ hC4 hc4).mono ?_; rintro e w10 ⟨⟨g1, rfl, hg1, hR1⟩, hb10⟩))
      have hB8 : Below w8.heap.size w8 w10 := by
        have h1 : Below w8.heap.size w8 w9 := (Below.refl w8.heap.size w8).drew.trans hb9
        exact h1.trans (hb10.mono h1.size)
      have HB11 : Hid (Below w0.heap.size w0 w10) := HB10.out.trans (hB8.mono HB10.out.size)
      have HCX11 := Lib.hid (Kd.C_below HCX10.out hB8)
      have rK2 : w10.rangeAt w7.heap.size 0 kl := range_later hB8 rK
      have hlen : (ptSort (rawPts kb per X)).length ≤ 1000000 := by obtain ⟨_, _, _, _, _, h⟩ := hR1; exact h
      obtain ⟨L, HL⟩ : ∃ L : List S67, Hid (L = ptSort (rawPts kb per X)) := ⟨_, rfl⟩
      rw [← HL.out] at hR1 hlen
      have HR11 := Lib.hid hR1
      clear hB8 hb9 hb10 hC4 rK HCX10 HCXd HBX HOX HB10 hR1 hg1
      try refine NoPanic.normal ?_
      try clear hHeld
      go_wp2_with fail
      refine (stewardref19_Check.calls kr A2 c2' X 0 w10 HCX11.out hc2 HREF.out).mono ?_
      rintro e w11 ⟨rfl, hb11⟩
      have HB12 : Hid (Below w0.heap.size w0 w11) := HB11.out.trans (hb11.mono HB11.out.size)
      have HCX12 := Lib.hid (Kd.C_below HCX11.out hb11)
      have HR12 := Lib.hid (HR11.out.below hb11)
      have rK3 : w11.rangeAt w7.heap.size 0 kl := range_later hb11 rK2
      have HRK := Lib.hid rK3
      clear HB11 HCX11 HR11 rK2 hb11 rK3
      have hkc : Kd.C (Kd.int .u8) w11 (some ⟨w7.heap.size, 0, none⟩) 16 kb := by
        have h := Kd.C_of_reads (enc := Value.int .u8) (h1 := fun _ => rfl) (w := w11) (A := some ⟨w7.heap.size, 0, none⟩) (n := kb.length) (xs := kb) (d := (0 : Int)) ⟨rfl, (by omega), fun hp => ⟨_, rfl, fun j hj => by
          have h := HRK.out j (.int .u8 (kb.getD j 0)) (by rw [Hkl.out]; simp [nums, List.getD_eq_getElem?_getD, List.getElem?_eq_getElem hj])
          rw [add_at]
          exact h⟩⟩
        rwa [hkb] at h
      have hcv := fun (c : Nat) => Kd.C_string (P := Tryd.prog) (src := 37) (dst := 9) (e := 5) (c := c) Tryd.underlying37 Tryd.underlying5 Tryd.underlying9 hkc
      clear hkc
      obtain ⟨ks, Hks⟩ : ∃ ks : ByteArray, Hid (ks = strOfNums kb) := ⟨_, rfl⟩
      rw [← Hks.out] at hcv
      have hks : ks.size = 16 := by rw [Hks.out, strOfNums_size]; exact hkb
      have hrb := fun (w : World) (h : Kd.C k46 w A2 X.length X) => rbuild_calls ks A2 c2' X per w hks h hc2 (by omega) (fun e he => Nat.le_trans (HXS.out e he) (by omega)) hper HGD.out.2
      have hkb2 : bytesOf ks = kb := by rw [Hks.out]; exact bytes_of_nums kb HOKB.out
      rw [hkb2, ← HL.out] at hrb
      have HRB := Lib.hid hrb
      clear hrb hkb2
      go_wp2_with fail
      refine (HRB.out _ HCX12.out).mono ?_
      rintro e w13 ⟨⟨v13, rfl, hO13⟩, hb13⟩
      obtain ⟨A13, c13, rfl, hc13, hC13⟩ := own_pts41 hO13 rfl
      have HB14 : Hid (Below w0.heap.size w0 w13) := HB12.out.trans (hb13.mono HB12.out.size)
      have HR14 := Lib.hid (HR12.out.below hb13)
      have HP14 := Lib.hid hC13
      clear hb13 hO13 hC13 HB12 HR12 HCX12 HRK HRB hcv hks HREF
      go_wp2_with fail
      refine (len_calls g1 L w13 HR14.out).mono ?_
      rintro e w15 ⟨rfl, hb15⟩
      have HB15 : Hid (Below w0.heap.size w0 w15) := HB14.out.trans (hb15.mono HB14.out.size)
      have HR15 := Lib.hid (HR14.out.below hb15)
      have HP15 := Lib.hid (Kd.C_below HP14.out hb15)
      clear hb15 HB14 HR14 HP14
      go_wp2_with fail
      go_loopw [67] (fun i wr => ∃ k : Nat, k ≤ L.length ∧ i = .int .i64 k ∧ Hid (RingAt wr g1 L) ∧ Hid (Kd.C k41 wr A13 L.length (L.map to41)) ∧ Hid (Below w0.heap.size w0 wr)) (fun i _ => L.length - (intOf i).toNat)
      case atStart => exact ⟨0, Nat.zero_le _, rfl, HR15, HP15, HB15⟩
      case round =>
        obtain ⟨k, hk, rfl, HRa, HPa, HBa⟩ := hrel
        by_cases hlt : k < L.length
        · obtain ⟨ad, hAd, hc0, hc1⟩ := p41_at HPa.out k hlt
          subst hAd
          obtain ⟨px, Hpx⟩ : ∃ px : S67, Hid (px = L[k]) := ⟨L[k], rfl⟩
          rw [← Hpx.out] at hc0 hc1
          have hpt := fun w h => point_calls g1 L k w h
          have hpe : pointOf L k = (px.f0, px.f1) := by rw [Hpx.out]; exact point_in L k hlt
          simp only [hpe] at hpt
          have HPT := Lib.hid hpt
          clear hpt hpe
          have HRn := Lib.hid (HRa.out.below (below_alloc (Below.refl wr.heap.size wr) (.cells #[.int .u64 px.f0, .string px.f1] 41)))
          have HPn := Lib.hid (Kd.C_below HPa.out (below_alloc (Below.refl wr.heap.size wr) (.cells #[.int .u64 px.f0, .string px.f1] 41)))
          have HBn := Lib.hid (below_alloc HBa.out (.cells #[.int .u64 px.f0, .string px.f1] 41))
          have HXn := Lib.hid (blk_new wr (.cells #[.int .u64 px.f0, .string px.f1] 41))
          go_wp2_with fail
          generalize wr.alloc (.cells #[.int .u64 px.f0, .string px.f1] 41) = wn at HRn HPn HBn HXn ⊢
          refine (HPT.out _ HRn.out).mono ?_
          rintro e wa ⟨rfl, hba⟩
          have HBb : Hid (Below w0.heap.size w0 wa) := HBn.out.trans (hba.mono HBn.out.size)
          have HRb := Lib.hid (HRn.out.below hba)
          have HPb := Lib.hid (Kd.C_below HPn.out hba)
          have hXb := blk_below HXn.out hba
          have x0 := blk_cell hXb 0
          have x1 := blk_cell hXb 1
          simp only [List.getElem?_toArray, List.getElem?_cons_zero, List.getElem?_cons_succ] at x0 x1
          clear hba HBn HRn HPn HXn hXb hc0 hc1
          go_wp2_with fail
          go_roundw
          case rel => exact ⟨k + 1, by omega, by go_num, HRb, HPb, HBb⟩
          case measure => simp [intOf]; omega
        · obtain rfl : k = L.length := by omega
          have hpt := fun w h => point_calls g1 L (L.length : Int) w h
          have hpe : pointOf L (L.length : Int) = (0, ⟨#[]⟩) := by unfold pointOf; rw [if_neg (by omega)]
          simp only [hpe] at hpt
          have HPT := Lib.hid hpt
          clear hpt hpe
          go_wp2_with fail
          refine (HPT.out _ HRa.out).mono ?_
          rintro e wa ⟨rfl, hba⟩
          have HBb : Hid (Below w0.heap.size w0 wa) := HBa.out.trans (hba.mono HBa.out.size)
          go_wp2_with fail
          go_ret
          exact ⟨rfl, HBb.out⟩
    · have hz1 : chk X = 1 := (chk_01 X).resolve_left hz
      obtain rfl : rr = 1 := hr01.resolve_left (fun h => hz (hgood.2 (hrg.1 h)))
      have hbx := fun (B : Option Addr) (d : Nat) (w : World) (h : Kd.C k46 w B X.length X) (hd : X.length ≤ d) => build_fails kl.toArray B d X per w h hd (by omega) hs13 hz
      simp only [hz1] at hbx
      have HBX := Lib.hid hbx
      clear hbx hz hz1 hgood hrg hr01 hs13
      go_region_held3 (fun w' => w'.rangeAt w7.heap.size 0 kl)
        (first
          | exact rK
          | exact range_later hb9 rK
          | exact range_later hb10 (range_later hb9 rK))
        (first
          | (go_at_call 11; refine (HOX.out w8.drew HCXd.out).mono ?_; rintro e w9 ⟨⟨A4, c4, rfl, hc4, hC4⟩, hb9⟩)
          | (go_at_call 10; refine (HBX.out A4 c4 _ hC4 hc4).mono ?_; rintro e w10 ⟨rfl, hb10⟩))
      have hB8 : Below w8.heap.size w8 w10 := by
        have h1 : Below w8.heap.size w8 w9 := (Below.refl w8.heap.size w8).drew.trans hb9
        exact h1.trans (hb10.mono h1.size)
      have HB11 : Hid (Below w0.heap.size w0 w10) := HB10.out.trans (hB8.mono HB10.out.size)
      have HCX11 := Lib.hid (Kd.C_below HCX10.out hB8)
      clear hB8 hb9 hb10 hC4 rK HCX10 HCXd HBX HOX HB10
      try refine NoPanic.normal ?_
      go_wp2_with fail
      refine (stewardref19_Check.calls kr A2 c2' X 1 w10 HCX11.out hc2 HREF.out).mono ?_
      rintro e w11 ⟨rfl, hb11⟩
      have HB12 : Hid (Below w0.heap.size w0 w11) := HB11.out.trans (hb11.mono HB11.out.size)
      clear HB11 HCX11 hb11
      go_wp2_with fail
      go_ret
      exact ⟨rfl, HB12.out⟩
end Go.Proofs.YtbcmmmcbineipaaDoor
