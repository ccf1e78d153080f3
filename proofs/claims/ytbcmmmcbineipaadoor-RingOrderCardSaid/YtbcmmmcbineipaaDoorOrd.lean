/- The law of the order: the walk. -/
import Derived.Test.YtbcmmmcbineipaaDoorLawB
set_option linter.unusedVariables false
set_option linter.unusedSimpArgs false
namespace Go.Proofs.YtbcmmmcbineipaaDoor
open Go.RowKit Go.Proofs.YtbcmmmcbineipaaDoorW.PrintWords Go.Proofs.YtbcmmmcbineipaaDoorW.PrintLast Go.Proofs.YtbcmmmcbineipaaDoorW.PrintMore
open Go.Proofs.YtbcmmmcbineipaaDoor.PR
theorem wrap_u64_nonneg (n : Int) : 0 ≤ IntKind.u64.wrap n := by
  unfold IntKind.wrap
  simp only [IntKind.signed, Bool.false_and]
  exact Int.emod_nonneg _ (by decide)
theorem ssum_nonneg (kb bs : List Int) : 0 ≤ ssum kb bs := by
  unfold ssum send sfinal
  exact wrap_u64_nonneg _
theorem raw_nonneg (kb : List Int) (per : Int) (l : List S46) (p : S67) (h : p ∈ rawPts kb per l) : 0 ≤ p.f0 := by
  unfold rawPts at h
  obtain ⟨e, _, h⟩ := List.mem_flatMap.1 h
  unfold ptsOf at h
  obtain ⟨i, _, rfl⟩ := List.mem_map.1 h
  exact ssum_nonneg _ _
theorem point_in (l : List S67) (k : Nat) (hk : k < l.length) : pointOf l k = (l[k].f0, l[k].f1) := by
  rw [pointOf, if_pos (by omega), Int.toNat_natCast, List.getD_eq_getElem?_getD, List.getElem?_eq_getElem hk]
  rfl
theorem point_rises (l : List S67) (hso : ∀ (a b : Nat) (ha : a ≤ b) (hb : b < l.length), l[a].f0 ≤ l[b].f0) (h0 : ∀ p ∈ l, 0 ≤ p.f0) (k : Nat) (hk : k < l.length) : (pointOf l ((k : Int) - 1)).1 ≤ (pointOf l k).1 := by
  rw [point_in l k hk]
  cases k with
  | zero =>
    rw [pointOf, if_neg (by omega)]
    exact h0 _ (List.getElem_mem hk)
  | succ k =>
    have e : ((k + 1 : Nat) : Int) - 1 = (k : Nat) := by omega
    rw [e, point_in l k (by omega)]
    exact hso k (k + 1) (by omega) hk
set_option maxHeartbeats 800000 in
set_option maxRecDepth 100000 in
theorem order_calls (s : ByteArray) (A : Option Addr) (c : Nat) (l : List S46) (w0 : World) (hr : Kd.C k46 w0 A l.length l) (hc : l.length ≤ c) :
    Calls Tryd.prog 4 #[.string s, .slice A l.length c] w0 fun e w' => e = .returned (.bool true) ∧ Below w0.heap.size w0 w' := by
  have HR := Lib.hid hr
  clear hr
  obtain ⟨i0, hi0, hz0, hz1, hz2⟩ := info_parts info46
  go_enter Tryd.func4, Tryd.ntmps4
  go_wp2_with fail
  refine (awake_calls _).mono ?_
  rintro e w1 ⟨rfl, hb1⟩
  go_wp2_with fail
  have h5 : stewardlaw18_Few.f (min l.length 5 + 1) l 5 = some (fewOf l 5) := few_f l 5 (by omega)
  refine (stewardlaw18_Few.calls _ A c l 5 (fewOf l 5) w1 (Kd.C_below HR.out hb1) hc h5).mono ?_
  rintro e w2 ⟨v2, rfl, hR2, hb2⟩
  obtain ⟨A2, c2, rfl, hc2, hC2⟩ := Kd.R_reads hR2
  have hB2 := hb1.trans (hb2.mono hb1.size)
  have hX5 := fewOf_length l 5
  have hXs := fewOf_size l 5
  obtain ⟨X, HX⟩ : ∃ X : List S46, Hid (X = fewOf l 5) := ⟨_, rfl⟩
  simp only [← HX.out] at hc2 hC2 hX5 hXs ⊢
  have HC2 := Lib.hid hC2
  have HXS := Lib.hid hXs
  have HB2 := Lib.hid hB2
  clear hR2 hb1 hb2 hB2 hC2 hXs h5
  go_wp2_with fail
  go_loopw [6, 7] (fun v i wr => ∃ j : Nat, j ≤ X.length ∧ i = .int .i64 ((j : Int) - 1) ∧ Hid (wr.ownsRow w2.heap.size 46 2 v (X.length - j) (flatE (X.drop j).reverse)) ∧ Hid (Below w2.heap.size w2 wr)) (fun _ i _ => (intOf i + 1).toNat)
  case atStart => exact ⟨X.length, Nat.le_refl _, by go_num, by show World.ownsRow _ _ _ _ _ _ _; simpa [flatE] using World.ownsRow_nil _ _ _ _, Below.refl _ _⟩
  case round =>
    obtain ⟨j, hj, rfl, HO, HB⟩ := hrel
    by_cases hlt : 0 < j
    · obtain ⟨k, rfl⟩ : ∃ k, j = k + 1 := ⟨j - 1, by omega⟩
      have ek : ((k + 1 : Nat) : Int) - 1 = (k : Int) := by omega
      rw [ek]
      have hk : k < X.length := by omega
      obtain ⟨ad, rfl, hc0, hc1⟩ := e46_at (Kd.C_below HC2.out HB.out) k hk
      obtain ⟨x, Hx⟩ : ∃ x : S46, Hid (x = X[k]) := ⟨X[k], rfl⟩
      rw [← Hx.out] at hc0 hc1
      have hsz := HB.out.size
      obtain ⟨q, Hq⟩ : ∃ q : Nat, Hid (q = X.length - (k + 1)) := ⟨_, rfl⟩
      have hq5 : q ≤ 5 := by rw [Hq.out]; omega
      rw [← Hq.out] at HO
      have hn9 : q + 1 ≤ maxLen := by unfold maxLen; omega
      have hn10 : (q + 1) * 24 ≤ 140737488355328 := by omega
      have hfl : flatE (X.drop (k + 1)).reverse ++ [Value.string x.f0, Value.int .i64 x.f1] = flatE (X.drop k).reverse := by
        rw [List.drop_eq_getElem_cons hk, List.reverse_cons, flatE_append, ← Hx.out]
        rfl
      have HFL := Lib.hid hfl
      clear hfl
      have hnb := blk_new wr (.cells #[Value.string x.f0, Value.int .i64 x.f1] 46)
      have HNB := Lib.hid hnb
      clear hnb
      have hsz2 : w2.heap.size ≤ (wr.alloc (.cells #[Value.string x.f0, Value.int .i64 x.f1] 46)).heap.size := by rw [World.size_alloc]; omega
      have HSZ := Lib.hid hsz2
      clear hsz2
      go_wp2_with (at_builtin; refine wpList_append_lies _ rfl (.tmp 30) (.tmp 35) 22 rfl w2.heap.size 46 i0 _ 2 24 Tryd.underlying22 hi0 hz0 hz1 hz2 rfl (by omega) u6 q (flatE (X.drop (k + 1)).reverse) rfl (HO.out.alloc _) ⟨wr.heap.size, 0, none⟩ 1 1 [.string x.f0, .int .i64 x.f1] rfl rfl (World.news_of_block (cs := #[.string x.f0, .int .i64 x.f1]) (t := 46) (fr := (0, 0)) HNB.out) (by simp [Value.oneCell']) (by omega) hn9 hn10 HSZ.out _ rfl ?_; intro gg cap w9 hown9 hgrow hat hlt9; have HO9 := Lib.hid hown9; have HB9 : Hid (Below w2.heap.size w2 w9) := (HB.out.alloc hsz _).grown hgrow HSZ.out (fun g hg => own_ge HO.out hg); clear hown9 hgrow)
      go_roundw
      case rel => exact ⟨k, by omega, rfl, (by rw [← HFL.out, show X.length - k = q + 1 by rw [Hq.out]; omega]; exact HO9.out), HB9⟩
      case measure => simp [intOf]
    · obtain rfl : j = 0 := by omega
      have ek : ((0 : Nat) : Int) - 1 = -1 := rfl
      rw [ek]
      rw [List.drop_zero, Nat.sub_zero] at HO
      obtain ⟨A3, c3, rfl, hc3, hC3⟩ := own_ents HO.out (by simp)
      have HC3 := Lib.hid hC3
      have hlr : X.reverse.length = X.length := List.length_reverse
      clear hC3
      go_wp2_with fail
      obtain ⟨Y, HY⟩ : ∃ Y : List S46, Hid (Y = X.reverse) := ⟨_, rfl⟩
      rw [← HY.out] at hlr HC3 hc3
      rw [hlr] at HC3 hc3
      have hperm : Y.Perm X := by rw [HY.out]; exact List.reverse_perm X
      have hYs : ∀ e ∈ Y, e.f0.size ≤ 13 := fun e he => HXS.out e (hperm.mem_iff.1 he)
      have HYS := Lib.hid hYs
      have HPM := Lib.hid hperm
      have HB3 : Hid (Below w0.heap.size w0 wr) := HB2.out.trans (HB.out.mono HB2.out.size)
      have HCX := Lib.hid (Kd.C_below HC2.out HB.out)
      have hown : ∀ (B : Option Addr) (d : Nat) (Z : List S46) (w : World), Kd.C k46 w B X.length Z → X.length ≤ d → Z.length = X.length → Calls Tryd.prog 11 #[.slice B X.length d] w fun e w' => (∃ A' c', e = .returned (.slice A' X.length c') ∧ X.length ≤ c' ∧ Kd.C k46 w' A' X.length Z) ∧ Below w.heap.size w w' := fun B d Z w h1 h2 h3 => by
        have h := own_calls B d Z w (by rw [h3]; exact h1) (by omega) (by omega)
        rwa [h3] at h
      have HOWN := Lib.hid hown
      clear hYs hperm hown HB HO
      refine (keyOf_calls _ _).mono ?_
      rintro e w3 ⟨rfl, hb3⟩
      obtain ⟨kb, Hkb⟩ : ∃ kb : List Int, Hid (kb = keyOf s) := ⟨_, rfl⟩
      have hkb : kb.length = 16 := by rw [Hkb.out]; exact keyOf_length _
      have hkey := fun w => keyOf_calls s w
      simp only [← Hkb.out] at hkey ⊢
      have HKEY := Lib.hid hkey
      have HB4 : Hid (Below w0.heap.size w0 w3) := HB3.out.trans (hb3.mono HB3.out.size)
      have HC4 := Lib.hid (Kd.C_below HCX.out hb3)
      have HD4 := Lib.hid (Kd.C_below HC3.out hb3)
      clear HB3 HCX HC3 hb3 hkey
      go_wp2_with fail
      refine (HOWN.out A2 c2 X w3 HC4.out hc2 rfl).mono ?_
      rintro e w4 ⟨⟨A4, c4, rfl, hc4, hC4⟩, hb4⟩
      have HE4 := Lib.hid hC4
      have HB5 : Hid (Below w0.heap.size w0 w4) := HB4.out.trans (hb4.mono HB4.out.size)
      have HC5 := Lib.hid (Kd.C_below HC4.out hb4)
      have HD5 := Lib.hid (Kd.C_below HD4.out hb4)
      clear HB4 HC4 HD4 hC4 hb4
      go_wp2_with fail
      have hs13 : ∀ e ∈ X, e.f0.size ≤ 140737488354000 := fun e he => Nat.le_trans (HXS.out e he) (by omega)
      have hs13Y : ∀ e ∈ Y, e.f0.size ≤ 140737488354000 := fun e he => Nat.le_trans (HYS.out e he) (by omega)
      have hgood := chk_good X (by omega) (fun e he => Nat.le_trans (HXS.out e he) (by unfold maxLen; omega))
      have hgoodY := chk_good Y (by omega) (fun e he => Nat.le_trans (HYS.out e he) (by unfold maxLen; omega))
      obtain ⟨kr, rr, href, hr01, hrg⟩ := ref_check X (by omega)
      by_cases hz : chk X = 0
      · have hzY : chk Y = 0 := hgoodY.2 ((good_perm HPM.out).2 (hgood.1 hz))
        have hw : ∀ e ∈ X, 1 ≤ e.f1 ∧ e.f1 ≤ 65535 := (hgood.1 hz).2
        have hwY : ∀ e ∈ Y, 1 ≤ e.f1 ∧ e.f1 ≤ 65535 := (hgoodY.1 hzY).2
        obtain rfl : rr = 0 := hrg.2 (hgood.1 hz)
        refine (build_calls kb A4 c4 X 8 w4 hkb HE4.out hc4 (by omega) hs13 (by omega) hw hz).mono ?_
        rintro e w5 ⟨⟨g1, rfl, hg1, hR1⟩, hb5⟩
        have HS13Y := Lib.hid hs13Y
        have HWY := Lib.hid hwY
        have HZY := Lib.hid hzY
        have HREF := Lib.hid href
        clear hgood hgoodY hrg hr01 hw hs13 hz hs13Y hwY hzY href hg1
        have HB6 : Hid (Below w0.heap.size w0 w5) := HB5.out.trans (hb5.mono HB5.out.size)
        have HC6 := Lib.hid (Kd.C_below HC5.out hb5)
        have HD6 := Lib.hid (Kd.C_below HD5.out hb5)
        have hlen : (ptSort (rawPts kb 8 X)).length ≤ 1000000 := by obtain ⟨_, _, _, _, _, h⟩ := hR1; exact h
        have hso := ringAsc (rawPts kb 8 X)
        have hnn : ∀ p ∈ ptSort (rawPts kb 8 X), 0 ≤ p.f0 := fun p hp => raw_nonneg kb 8 X p ((ptSort_perm _).mem_iff.1 hp)
        have heq := ring_perm kb 8 HPM.out
        obtain ⟨L, HL⟩ : ∃ L : List S67, Hid (L = ptSort (rawPts kb 8 X)) := ⟨_, rfl⟩
        simp only [← HL.out] at hR1 hlen hso hnn heq
        have HS1 := Lib.hid hR1
        have HSO := Lib.hid hso
        have HNN := Lib.hid hnn
        have HEQ := Lib.hid heq
        clear HB5 HC5 HD5 HE4 hb5 hR1 hso hnn heq
        go_wp2_with fail
        refine (HKEY.out _).mono ?_
        rintro e w6 ⟨rfl, hb6⟩
        have HB7 : Hid (Below w0.heap.size w0 w6) := HB6.out.trans (hb6.mono HB6.out.size)
        have HC7 := Lib.hid (Kd.C_below HC6.out hb6)
        have HD7 := Lib.hid (Kd.C_below HD6.out hb6)
        have HS7 := Lib.hid (HS1.out.below hb6)
        clear HB6 HC6 HD6 HS1 hb6
        go_wp2_with fail
        refine (HOWN.out A3 c3 Y w6 HD7.out hc3 hlr).mono ?_
        rintro e w7 ⟨⟨A5, c5, rfl, hc5, hC5⟩, hb7⟩
        have HE5 := Lib.hid hC5
        have HB8 : Hid (Below w0.heap.size w0 w7) := HB7.out.trans (hb7.mono HB7.out.size)
        have HC8 := Lib.hid (Kd.C_below HC7.out hb7)
        have HS8 := Lib.hid (HS7.out.below hb7)
        clear HB7 HC7 HD7 HS7 hC5 hb7
        go_wp2_with fail
        have hbl := build_calls kb A5 c5 Y 8 w7 hkb (by rw [hlr]; exact HE5.out) (by omega) (by omega) HS13Y.out (by omega) HWY.out HZY.out
        rw [hlr, HEQ.out] at hbl
        refine hbl.mono ?_
        rintro e w8 ⟨⟨g2, rfl, hg2, hR2⟩, hb8⟩
        have HB9 : Hid (Below w0.heap.size w0 w8) := HB8.out.trans (hb8.mono HB8.out.size)
        have HC9 := Lib.hid (Kd.C_below HC8.out hb8)
        have HS9 := Lib.hid (HS8.out.below hb8)
        have HT9 := Lib.hid hR2
        clear HB8 HC8 HE5 HS8 hbl hR2 hb8 hg2
        go_wp2_with fail
        refine (stewardref19_Check.calls kr A2 c2 X 0 w8 HC9.out hc2 HREF.out).mono ?_
        rintro e w9 ⟨rfl, hb9⟩
        have HB10 : Hid (Below w0.heap.size w0 w9) := HB9.out.trans (hb9.mono HB9.out.size)
        have HS10 := Lib.hid (HS9.out.below hb9)
        have HT10 := Lib.hid (HT9.out.below hb9)
        clear HB9 HC9 HS9 HT9 hb9
        go_wp2_with fail
        refine (len_calls g1 L w9 HS10.out).mono ?_
        rintro e w10 ⟨rfl, hb10⟩
        have HB11 : Hid (Below w0.heap.size w0 w10) := HB10.out.trans (hb10.mono HB10.out.size)
        have HS11 := Lib.hid (HS10.out.below hb10)
        have HT11 := Lib.hid (HT10.out.below hb10)
        clear HB10 HS10 HT10 hb10
        go_wp2_with fail
        go_loopw [75] (fun i wr => ∃ k : Nat, k ≤ L.length ∧ i = .int .i64 k ∧ Hid (RingAt wr g1 L) ∧ Hid (RingAt wr g2 L) ∧ Hid (Below w0.heap.size w0 wr)) (fun i _ => L.length - (intOf i).toNat)
        case atStart => exact ⟨0, Nat.zero_le _, rfl, HS11, HT11, HB11⟩
        case round =>
          obtain ⟨k, hk, rfl, HSa, HTa, HBa⟩ := hrel
          by_cases hltk : k < L.length
          · have hrise := point_rises L HSO.out HNN.out k hltk
            have ekm : IntKind.i64.wrap ((k : Int) - 1) = (k : Int) - 1 := by unfold IntKind.wrap; simp [IntKind.bits, IntKind.signed]; omega
            obtain ⟨px, Hpx⟩ : ∃ px : Int × ByteArray, Hid (px = pointOf L k) := ⟨_, rfl⟩
            obtain ⟨po, Hpo⟩ : ∃ po : Int × ByteArray, Hid (po = pointOf L ((k : Int) - 1)) := ⟨_, rfl⟩
            have hp1 := fun w h => point_calls g1 L k w h
            have hp2 := fun w h => point_calls g2 L k w h
            have hp3 := fun w h => point_calls g1 L ((k : Int) - 1) w h
            rw [← Hpx.out, ← Hpo.out] at hrise
            simp only [← Hpx.out, ← Hpo.out] at hp1 hp2 hp3
            have HP1 := Lib.hid hp1
            have HP2 := Lib.hid hp2
            have HP3 := Lib.hid hp3
            have hnlt : decide (px.1 < po.1) = false := decide_eq_false (by omega)
            clear hp1 hp2 hp3
            go_wp2_with fail
            refine (HP1.out _ HSa.out).mono ?_
            rintro e wa ⟨rfl, hba⟩
            have HBb : Hid (Below w0.heap.size w0 wa) := HBa.out.trans (hba.mono HBa.out.size)
            have HSb := Lib.hid (HSa.out.below hba)
            have HTb := Lib.hid (HTa.out.below hba)
            clear HBa HSa HTa hba
            go_wp2_with fail
            refine (HP2.out _ HTb.out).mono ?_
            rintro e wb ⟨rfl, hbb⟩
            have HBc : Hid (Below w0.heap.size w0 wb) := HBb.out.trans (hbb.mono HBb.out.size)
            have HSc := Lib.hid (HSb.out.below hbb)
            have HTc := Lib.hid (HTb.out.below hbb)
            clear HBb HSb HTb hbb
            go_wp2_with fail
            refine (HP3.out _ HSc.out).mono ?_
            rintro e wc ⟨rfl, hbc⟩
            have HBd : Hid (Below w0.heap.size w0 wc) := HBc.out.trans (hbc.mono HBc.out.size)
            have HSd := Lib.hid (HSc.out.below hbc)
            have HTd := Lib.hid (HTc.out.below hbc)
            clear HBc HSc HTc hbc
            go_wp2_with fail
            go_roundw
            case rel => exact ⟨k + 1, by omega, by go_num, HSd, HTd, HBd⟩
            case measure => simp [intOf]; omega
          · obtain rfl : k = L.length := by omega
            go_wp2_with fail
            refine (len_calls g1 L _ HSa.out).mono ?_
            rintro e wa ⟨rfl, hba⟩
            have HBb : Hid (Below w0.heap.size w0 wa) := HBa.out.trans (hba.mono HBa.out.size)
            have HTb := Lib.hid (HTa.out.below hba)
            clear HBa HSa HTa hba
            go_wp2_with fail
            refine (len_calls g2 L _ HTb.out).mono ?_
            rintro e wb ⟨rfl, hbb⟩
            have HBc : Hid (Below w0.heap.size w0 wb) := HBb.out.trans (hbb.mono HBb.out.size)
            clear HBb HTb hbb
            go_wp2_with fail
            go_ret
            exact ⟨rfl, HBc.out⟩
      · have hz1 : chk X = 1 := (chk_01 X).resolve_left hz
        have hzY : chk Y = 1 := (chk_01 Y).resolve_left (fun h => hz (hgood.2 ((good_perm HPM.out).1 (hgoodY.1 h))))
        obtain rfl : rr = 1 := hr01.resolve_left (fun h => hz (hgood.2 (hrg.1 h)))
        have hf1 := build_fails (nums .u8 kb).toArray A4 c4 X 8 w4 HE4.out hc4 (by omega) hs13 hz
        have hf2 := fun (B : Option Addr) (d : Nat) (w : World) (h : Kd.C k46 w B X.length Y) (hd : X.length ≤ d) => build_fails (nums .u8 kb).toArray B d Y 8 w (by rw [hlr]; exact h) (by omega) (by omega) hs13Y (by omega)
        rw [hz1] at hf1
        simp only [hlr, hzY] at hf2
        have HF2 := Lib.hid hf2
        have HREF := Lib.hid href
        refine hf1.mono ?_
        rintro e w5 ⟨rfl, hb5⟩
        have HB6 : Hid (Below w0.heap.size w0 w5) := HB5.out.trans (hb5.mono HB5.out.size)
        have HC6 := Lib.hid (Kd.C_below HC5.out hb5)
        have HD6 := Lib.hid (Kd.C_below HD5.out hb5)
        clear HB5 HC5 HD5 HE4 hb5 hf1 hf2 hgood hgoodY hrg hr01 hs13 hs13Y hz hz1 hzY href
        go_wp2_with fail
        refine (HKEY.out _).mono ?_
        rintro e w6 ⟨rfl, hb6⟩
        have HB7 : Hid (Below w0.heap.size w0 w6) := HB6.out.trans (hb6.mono HB6.out.size)
        have HC7 := Lib.hid (Kd.C_below HC6.out hb6)
        have HD7 := Lib.hid (Kd.C_below HD6.out hb6)
        clear HB6 HC6 HD6 hb6
        go_wp2_with fail
        refine (HOWN.out A3 c3 Y w6 HD7.out hc3 hlr).mono ?_
        rintro e w7 ⟨⟨A5, c5, rfl, hc5, hC5⟩, hb7⟩
        have HE5 := Lib.hid hC5
        have HB8 : Hid (Below w0.heap.size w0 w7) := HB7.out.trans (hb7.mono HB7.out.size)
        have HC8 := Lib.hid (Kd.C_below HC7.out hb7)
        clear HB7 HC7 HD7 hC5 hb7
        go_wp2_with fail
        refine (HF2.out A5 c5 w7 HE5.out hc5).mono ?_
        rintro e w8 ⟨rfl, hb8⟩
        have HB9 : Hid (Below w0.heap.size w0 w8) := HB8.out.trans (hb8.mono HB8.out.size)
        have HC9 := Lib.hid (Kd.C_below HC8.out hb8)
        clear HB8 HC8 HE5 hb8
        go_wp2_with fail
        refine (stewardref19_Check.calls kr A2 c2 X 1 w8 HC9.out hc2 HREF.out).mono ?_
        rintro e w9 ⟨rfl, hb9⟩
        have HB10 : Hid (Below w0.heap.size w0 w9) := HB9.out.trans (hb9.mono HB9.out.size)
        clear HB9 HC9 hb9
        go_wp2_with fail
        go_ret
        exact ⟨rfl, HB10.out⟩
end Go.Proofs.YtbcmmmcbineipaaDoor
