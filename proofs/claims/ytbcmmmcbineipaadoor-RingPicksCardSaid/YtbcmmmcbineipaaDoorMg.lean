/- The law of the order: the walk. The law LITTLE: the walk. -/
import Derived.Test.YtbcmmmcbineipaaDoorMe
import Derived.Test.YtbcmmmcbineipaaDoorMf
set_option linter.unusedVariables false
set_option linter.unusedSimpArgs false
namespace Go.Proofs.YtbcmmmcbineipaaDoor
open Go.RowKit Go.Proofs.YtbcmmmcbineipaaDoorW.PrintWords Go.Proofs.YtbcmmmcbineipaaDoorW.PrintLast Go.Proofs.YtbcmmmcbineipaaDoorW.PrintMore
open Go.Proofs.YtbcmmmcbineipaaDoor.PR
theorem wrap_u64_nonneg (n : Int) : 0 ≤ IntKind.u64.wrap n := by
  unfold IntKind.wrap
  simp only [IntKind.signed, Bool.false_and]
  exact Int.emod_nonneg _ (by decide)
theorem ssum_nonneg (kb bs : List Int) : 0 ≤ ssum kb bs := by
  unfold ssum send sfinal
  exact wrap_u64_nonneg _
theorem raw_nonneg (kb : List Int) (per : Int) (l : List S46) (p : S67) (h : p ∈ rawPts kb per l) : 0 ≤ p.f0 := by
  unfold rawPts at h
  obtain ⟨e, _, h⟩ := List.mem_flatMap.1 h
  unfold ptsOf at h
  obtain ⟨i, _, rfl⟩ := List.mem_map.1 h
  exact ssum_nonneg _ _
theorem point_in (l : List S67) (k : Nat) (hk : k < l.length) : pointOf l k = (l[k].f0, l[k].f1) := by
  rw [pointOf, if_pos (by omega), Int.toNat_natCast, List.getD_eq_getElem?_getD, List.getElem?_eq_getElem hk]
  rfl
theorem point_rises (l : List S67) (hso : ∀ (a b : Nat) (ha : a ≤ b) (hb : b < l.length), l[a].f0 ≤ l[b].f0) (h0 : ∀ p ∈ l, 0 ≤ p.f0) (k : Nat) (hk : k < l.length) : (pointOf l ((k : Int) - 1)).1 ≤ (pointOf l k).1 := by
  rw [point_in l k hk]
  cases k with
  | zero =>
    rw [pointOf, if_neg (by omega)]
    exact h0 _ (List.getElem_mem hk)
  | succ k =>
    have e : ((k + 1 : Nat) : Int) - 1 = (k : Nat) := by omega
    rw [e, point_in l k (by omega)]
    exact hso k (k + 1) (by omega) hk
set_option maxHeartbeats 800000 in
set_option maxRecDepth 100000 in
theorem order_calls (s : ByteArray) (A : Option Addr) (c : Nat) (l : List S46) (w0 : World) (hr : Kd.C k46 w0 A l.length l) (hc : l.length ≤ c) :
    Calls Tryd.prog 4 #[.string s, .slice A l.length c] w0 fun e w' => e = .returned (.bool true) ∧ Below w0.heap.size w0 w' := by
  have HR := Lib.hid hr
  clear hr
  obtain ⟨i0, hi0, hz0, hz1, hz2⟩ := info_parts info46
  go_enter Tryd.func4, Tryd.ntmps4
  go_wp2_with fail
  refine (awake_calls _).mono ?_
  rintro e w1 ⟨rfl, hb1⟩
  go_wp2_with fail
  have h5 : stewardlaw18_Few.f (min l.length 5 + 1) l 5 = some (fewOf l 5) := few_f l 5 (by omega)
  refine (stewardlaw18_Few.calls _ A c l 5 (fewOf l 5) w1 (Kd.C_below HR.out hb1) hc h5).mono ?_
  rintro e w2 ⟨v2, rfl, hR2, hb2⟩
  obtain ⟨A2, c2, rfl, hc2, hC2⟩ := Kd.R_reads hR2
  have hB2 := hb1.trans (hb2.mono hb1.size)
  have hX5 := fewOf_length l 5
  have hXs := fewOf_size l 5
  obtain ⟨X, HX⟩ : ∃ X : List S46, Hid (X = fewOf l 5) := ⟨_, rfl⟩
  simp only [← HX.out] at hc2 hC2 hX5 hXs ⊢
  have HC2 := Lib.hid hC2
  have HXS := Lib.hid hXs
  have HB2 := Lib.hid hB2
  clear hR2 hb1 hb2 hB2 hC2 hXs h5
  go_wp2_with fail
  go_loopw [6, 7] (fun v i wr => ∃ j : Nat, j ≤ X.length ∧ i = .int .i64 ((j : Int) - 1) ∧ Hid (wr.ownsRow w2.heap.size 46 2 v (X.length - j) (flatE (X.drop j).reverse)) ∧ Hid (Below w2.heap.size w2 wr)) (fun _ i _ => (intOf i + 1).toNat)
  case atStart => exact ⟨X.length, Nat.le_refl _, by go_num, by show World.ownsRow _ _ _ _ _ _ _; simpa [flatE] using World.ownsRow_nil _ _ _ _, Below.refl _ _⟩
  case round =>
    obtain ⟨j, hj, rfl, HO, HB⟩ := hrel
    by_cases hlt : 0 < j
    · obtain ⟨k, rfl⟩ : ∃ k, j = k + 1 := ⟨j - 1, by omega⟩
      have ek : ((k + 1 : Nat) : Int) - 1 = (k : Int) := by omega
      rw [ek]
      have hk : k < X.length := by omega
      obtain ⟨ad, rfl, hc0, hc1⟩ := e46_at (Kd.C_below HC2.out HB.out) k hk
      obtain ⟨x, Hx⟩ : ∃ x : S46, Hid (x = X[k]) := ⟨X[k], rfl⟩
      rw [← Hx.out] at hc0 hc1
      have hsz := HB.out.size
      obtain ⟨q, Hq⟩ : ∃ q : Nat, Hid (q = X.length - (k + 1)) := ⟨_, rfl⟩
      have hq5 : q ≤ 5 := by rw [Hq.out]; omega
      rw [← Hq.out] at HO
      have hn9 : q + 1 ≤ maxLen := by unfold maxLen; omega
      have hn10 : (q + 1) * 24 ≤ 140737488355328 := by omega
      have hfl : flatE (X.drop (k + 1)).reverse ++ [Value.string x.f0, Value.int .i64 x.f1] = flatE (X.drop k).reverse := by
        rw [List.drop_eq_getElem_cons hk, List.reverse_cons, flatE_append, ← Hx.out]
        rfl
      have HFL := Lib.hid hfl
      clear hfl
      have hnb := blk_new wr (.cells #[Value.string x.f0, Value.int .i64 x.f1] 46)
      have HNB := Lib.hid hnb
      clear hnb
      have hsz2 : w2.heap.size ≤ (wr.alloc (.cells #[Value.string x.f0, Value.int .i64 x.f1] 46)).heap.size := by rw [World.size_alloc]; omega
      have HSZ := Lib.hid hsz2
      clear hsz2
      go_wp2_with (at_builtin; refine wpList_append_lies _ rfl (.tmp 30) (.tmp 35) 22 rfl w2.heap.size 46 i0 _ 2 24 Tryd.underlying22 hi0 hz0 hz1 hz2 rfl (by omega) u6 q (flatE (X.drop (k + 1)).reverse) rfl (HO.out.alloc _) ⟨wr.heap.size, 0, none⟩ 1 1 [.string x.f0, .int .i64 x.f1] rfl rfl (World.news_of_block (cs := #[.string x.f0, .int .i64 x.f1]) (t := 46) (fr := (0, 0)) HNB.out) (by simp [Value.oneCell']) (by omega) hn9 hn10 HSZ.out _ rfl ?_; intro gg cap w9 hown9 hgrow hat hlt9; have HO9 := Lib.hid hown9; have HB9 : Hid (Below w2.heap.size w2 w9) := (HB.out.alloc hsz _).grown hgrow HSZ.out (fun g hg => own_ge HO.out hg); clear hown9 hgrow)
      go_roundw
      case rel => exact ⟨k, by omega, rfl, (by rw [← HFL.out, show X.length - k = q + 1 by rw [Hq.out]; omega]; exact HO9.out), HB9⟩
      case measure => simp [intOf]
    · obtain rfl : j = 0 := by omega
      have ek : ((0 : Nat) : Int) - 1 = -1 := rfl
      rw [ek]
      rw [List.drop_zero, Nat.sub_zero] at HO
      obtain ⟨A3, c3, rfl, hc3, hC3⟩ := own_ents HO.out (by simp)
      have HC3 := Lib.hid hC3
      have hlr : X.reverse.length = X.length := List.length_reverse
      clear hC3
      go_wp2_with fail
      obtain ⟨Y, HY⟩ : ∃ Y : List S46, Hid (Y = X.reverse) := ⟨_, rfl⟩
      rw [← HY.out] at hlr HC3 hc3
      rw [hlr] at HC3 hc3
      have hperm : Y.Perm X := by rw [HY.out]; exact List.reverse_perm X
      have hYs : ∀ e ∈ Y, e.f0.size ≤ 13 := fun e he => HXS.out e (hperm.mem_iff.1 he)
      have HYS := Lib.hid hYs
      have HPM := Lib.hid hperm
      have HB3 : Hid (Below w0.heap.size w0 wr) := HB2.out.trans (HB.out.mono HB2.out.size)
      have HCX := Lib.hid (Kd.C_below HC2.out HB.out)
      have hown : ∀ (B : Option Addr) (d : Nat) (Z : List S46) (w : World), Kd.C k46 w B X.length Z → X.length ≤ d → Z.length = X.length → Calls Tryd.prog 11 #[.slice B X.length d] w fun e w' => (∃ A' c', e = .returned (.slice A' X.length c') ∧ X.length ≤ c' ∧ Kd.C k46 w' A' X.length Z) ∧ Below w.heap.size w w' := fun B d Z w h1 h2 h3 => by
        have h := own_calls B d Z w (by rw [h3]; exact h1) (by omega) (by omega)
        rwa [h3] at h
      have HOWN := Lib.hid hown
      clear hYs hperm hown HB HO
      refine (keyOf_calls _ _).mono ?_
      rintro e w3 ⟨rfl, hb3⟩
      obtain ⟨kb, Hkb⟩ : ∃ kb : List Int, Hid (kb = keyOf s) := ⟨_, rfl⟩
      have hkb : kb.length = 16 := by rw [Hkb.out]; exact keyOf_length _
      have hkey := fun w => keyOf_calls s w
      simp only [← Hkb.out] at hkey ⊢
      have HKEY := Lib.hid hkey
      have HB4 : Hid (Below w0.heap.size w0 w3) := HB3.out.trans (hb3.mono HB3.out.size)
      have HC4 := Lib.hid (Kd.C_below HCX.out hb3)
      have HD4 := Lib.hid (Kd.C_below HC3.out hb3)
      clear HB3 HCX HC3 hb3 hkey
      go_wp2_with fail
      refine (HOWN.out A2 c2 X w3 HC4.out hc2 rfl).mono ?_
      rintro e w4 ⟨⟨A4, c4, rfl, hc4, hC4⟩, hb4⟩
      have HE4 := Lib.hid hC4
      have HB5 : Hid (Below w0.heap.size w0 w4) := HB4.out.trans (hb4.mono HB4.out.size)
      have HC5 := Lib.hid (Kd.C_below HC4.out hb4)
      have HD5 := Lib.hid (Kd.C_below HD4.out hb4)
      clear HB4 HC4 HD4 hC4 hb4
      go_wp2_with fail
      have hs13 : ∀ e ∈ X, e.f0.size ≤ 140737488354000 := fun e he => Nat.le_trans (HXS.out e he) (by omega)
      have hs13Y : ∀ e ∈ Y, e.f0.size ≤ 140737488354000 := fun e he => Nat.le_trans (HYS.out e he) (by omega)
      have hgood := chk_good X (by omega) (fun e he => Nat.le_trans (HXS.out e he) (by unfold maxLen; omega))
      have hgoodY := chk_good Y (by omega) (fun e he => Nat.le_trans (HYS.out e he) (by unfold maxLen; omega))
      obtain ⟨kr, rr, href, hr01, hrg⟩ := ref_check X (by omega)
      by_cases hz : chk X = 0
      · have hzY : chk Y = 0 := hgoodY.2 ((good_perm HPM.out).2 (hgood.1 hz))
        have hw : ∀ e ∈ X, 1 ≤ e.f1 ∧ e.f1 ≤ 65535 := (hgood.1 hz).2
        have hwY : ∀ e ∈ Y, 1 ≤ e.f1 ∧ e.f1 ≤ 65535 := (hgoodY.1 hzY).2
        obtain rfl : rr = 0 := hrg.2 (hgood.1 hz)
        refine (build_calls kb A4 c4 X 8 w4 hkb HE4.out hc4 (by omega) hs13 (by omega) hw hz).mono ?_
        rintro e w5 ⟨⟨g1, rfl, hg1, hR1⟩, hb5⟩
        have HS13Y := Lib.hid hs13Y
        have HWY := Lib.hid hwY
        have HZY := Lib.hid hzY
        have HREF := Lib.hid href
        clear hgood hgoodY hrg hr01 hw hs13 hz hs13Y hwY hzY href hg1
        have HB6 : Hid (Below w0.heap.size w0 w5) := HB5.out.trans (hb5.mono HB5.out.size)
        have HC6 := Lib.hid (Kd.C_below HC5.out hb5)
        have HD6 := Lib.hid (Kd.C_below HD5.out hb5)
        have hlen : (ptSort (rawPts kb 8 X)).length ≤ 1000000 := by obtain ⟨_, _, _, _, _, h⟩ := hR1; exact h
        have hso := ringAsc (rawPts kb 8 X)
        have hnn : ∀ p ∈ ptSort (rawPts kb 8 X), 0 ≤ p.f0 := fun p hp => raw_nonneg kb 8 X p ((ptSort_perm _).mem_iff.1 hp)
        have heq := ring_perm kb 8 HPM.out
        obtain ⟨L, HL⟩ : ∃ L : List S67, Hid (L = ptSort (rawPts kb 8 X)) := ⟨_, rfl⟩
        simp only [← HL.out] at hR1 hlen hso hnn heq
        have HS1 := Lib.hid hR1
        have HSO := Lib.hid hso
        have HNN := Lib.hid hnn
        have HEQ := Lib.hid heq
        clear HB5 HC5 HD5 HE4 hb5 hR1 hso hnn heq
        go_wp2_with fail
        refine (HKEY.out _).mono ?_
        rintro e w6 ⟨rfl, hb6⟩
        have HB7 : Hid (Below w0.heap.size w0 w6) := HB6.out.trans (hb6.mono HB6.out.size)
        have HC7 := Lib.hid (Kd.C_below HC6.out hb6)
        have HD7 := Lib.hid (Kd.C_below HD6.out hb6)
        have HS7 := Lib.hid (HS1.out.below hb6)
        clear HB6 HC6 HD6 HS1 hb6
        go_wp2_with fail
        refine (HOWN.out A3 c3 Y w6 HD7.out hc3 hlr).mono ?_
        rintro e w7 ⟨⟨A5, c5, rfl, hc5, hC5⟩, hb7⟩
        have HE5 := Lib.hid hC5
        have HB8 : Hid (Below w0.heap.size w0 w7) := HB7.out.trans (hb7.mono HB7.out.size)
        have HC8 := Lib.hid (Kd.C_below HC7.out hb7)
        have HS8 := Lib.hid (HS7.out.below hb7)
        clear HB7 HC7 HD7 HS7 hC5 hb7
        go_wp2_with fail
        have hbl := build_calls kb A5 c5 Y 8 w7 hkb (by rw [hlr]; exact HE5.out) (by omega) (by omega) HS13Y.out (by omega) HWY.out HZY.out
        rw [hlr, HEQ.out] at hbl
        refine hbl.mono ?_
        rintro e w8 ⟨⟨g2, rfl, hg2, hR2⟩, hb8⟩
        have HB9 : Hid (Below w0.heap.size w0 w8) := HB8.out.trans (hb8.mono HB8.out.size)
        have HC9 := Lib.hid (Kd.C_below HC8.out hb8)
        have HS9 := Lib.hid (HS8.out.below hb8)
        have HT9 := Lib.hid hR2
        clear HB8 HC8 HE5 HS8 hbl hR2 hb8 hg2
        go_wp2_with fail
        refine (stewardref19_Check.calls kr A2 c2 X 0 w8 HC9.out hc2 HREF.out).mono ?_
        rintro e w9 ⟨rfl, hb9⟩
        have HB10 : Hid (Below w0.heap.size w0 w9) := HB9.out.trans (hb9.mono HB9.out.size)
        have HS10 := Lib.hid (HS9.out.below hb9)
        have HT10 := Lib.hid (HT9.out.below hb9)
        clear HB9 HC9 HS9 HT9 hb9
        go_wp2_with fail
        refine (len_calls g1 L w9 HS10.out).mono ?_
        rintro e w10 ⟨rfl, hb10⟩
        have HB11 : Hid (Below w0.heap.size w0 w10) := HB10.out.trans (hb10.mono HB10.out.size)
        have HS11 := Lib.hid (HS10.out.below hb10)
        have HT11 := Lib.hid (HT10.out.below hb10)
        clear HB10 HS10 HT10 hb10
        go_wp2_with fail
        go_loopw [75] (fun i wr => ∃ k : Nat, k ≤ L.length ∧ i = .int .i64 k ∧ Hid (RingAt wr g1 L) ∧ Hid (RingAt wr g2 L) ∧ Hid (Below w0.heap.size w0 wr)) (fun i _ => L.length - (intOf i).toNat)
        case atStart => exact ⟨0, Nat.zero_le _, rfl, HS11, HT11, HB11⟩
        case round =>
          obtain ⟨k, hk, rfl, HSa, HTa, HBa⟩ := hrel
          by_cases hltk : k < L.length
          · have hrise := point_rises L HSO.out HNN.out k hltk
            have ekm : IntKind.i64.wrap ((k : Int) - 1) = (k : Int) - 1 := by unfold IntKind.wrap; simp [IntKind.bits, IntKind.signed]; omega
            obtain ⟨px, Hpx⟩ : ∃ px : Int × ByteArray, Hid (px = pointOf L k) := ⟨_, rfl⟩
            obtain ⟨po, Hpo⟩ : ∃ po : Int × ByteArray, Hid (po = pointOf L ((k : Int) - 1)) := ⟨_, rfl⟩
            have hp1 := fun w h => point_calls g1 L k w h
            have hp2 := fun w h => point_calls g2 L k w h
            have hp3 := fun w h => point_calls g1 L ((k : Int) - 1) w h
            rw [← Hpx.out, ← Hpo.out] at hrise
            simp only [← Hpx.out, ← Hpo.out] at hp1 hp2 hp3
            have HP1 := Lib.hid hp1
            have HP2 := Lib.hid hp2
            have HP3 := Lib.hid hp3
            have hnlt : decide (px.1 < po.1) = false := decide_eq_false (by omega)
            clear hp1 hp2 hp3
            go_wp2_with fail
            refine (HP1.out _ HSa.out).mono ?_
            rintro e wa ⟨rfl, hba⟩
            have HBb : Hid (Below w0.heap.size w0 wa) := HBa.out.trans (hba.mono HBa.out.size)
            have HSb := Lib.hid (HSa.out.below hba)
            have HTb := Lib.hid (HTa.out.below hba)
            clear HBa HSa HTa hba
            go_wp2_with fail
            refine (HP2.out _ HTb.out).mono ?_
            rintro e wb ⟨rfl, hbb⟩
            have HBc : Hid (Below w0.heap.size w0 wb) := HBb.out.trans (hbb.mono HBb.out.size)
            have HSc := Lib.hid (HSb.out.below hbb)
            have HTc := Lib.hid (HTb.out.below hbb)
            clear HBb HSb HTb hbb
            go_wp2_with fail
            refine (HP3.out _ HSc.out).mono ?_
            rintro e wc ⟨rfl, hbc⟩
            have HBd : Hid (Below w0.heap.size w0 wc) := HBc.out.trans (hbc.mono HBc.out.size)
            have HSd := Lib.hid (HSc.out.below hbc)
            have HTd := Lib.hid (HTc.out.below hbc)
            clear HBc HSc HTc hbc
            go_wp2_with fail
            go_roundw
            case rel => exact ⟨k + 1, by omega, by go_num, HSd, HTd, HBd⟩
            case measure => simp [intOf]; omega
          · obtain rfl : k = L.length := by omega
            go_wp2_with fail
            refine (len_calls g1 L _ HSa.out).mono ?_
            rintro e wa ⟨rfl, hba⟩
            have HBb : Hid (Below w0.heap.size w0 wa) := HBa.out.trans (hba.mono HBa.out.size)
            have HTb := Lib.hid (HTa.out.below hba)
            clear HBa HSa HTa hba
            go_wp2_with fail
            refine (len_calls g2 L _ HTb.out).mono ?_
            rintro e wb ⟨rfl, hbb⟩
            have HBc : Hid (Below w0.heap.size w0 wb) := HBb.out.trans (hbb.mono HBb.out.size)
            clear HBb HTb hbb
            go_wp2_with fail
            go_ret
            exact ⟨rfl, HBc.out⟩
      · have hz1 : chk X = 1 := (chk_01 X).resolve_left hz
        have hzY : chk Y = 1 := (chk_01 Y).resolve_left (fun h => hz (hgood.2 ((good_perm HPM.out).1 (hgoodY.1 h))))
        obtain rfl : rr = 1 := hr01.resolve_left (fun h => hz (hgood.2 (hrg.1 h)))
        have hf1 := build_fails (nums .u8 kb).toArray A4 c4 X 8 w4 HE4.out hc4 (by omega) hs13 hz
        have hf2 := fun (B : Option Addr) (d : Nat) (w : World) (h : Kd.C k46 w B X.length Y) (hd : X.length ≤ d) => build_fails (nums .u8 kb).toArray B d Y 8 w (by rw [hlr]; exact h) (by omega) (by omega) hs13Y (by omega)
        rw [hz1] at hf1
        simp only [hlr, hzY] at hf2
        have HF2 := Lib.hid hf2
        have HREF := Lib.hid href
        refine hf1.mono ?_
        rintro e w5 ⟨rfl, hb5⟩
        have HB6 : Hid (Below w0.heap.size w0 w5) := HB5.out.trans (hb5.mono HB5.out.size)
        have HC6 := Lib.hid (Kd.C_below HC5.out hb5)
        have HD6 := Lib.hid (Kd.C_below HD5.out hb5)
        clear HB5 HC5 HD5 HE4 hb5 hf1 hf2 hgood hgoodY hrg hr01 hs13 hs13Y hz hz1 hzY href
        go_wp2_with fail
        refine (HKEY.out _).mono ?_
        rintro e w6 ⟨rfl, hb6⟩
        have HB7 : Hid (Below w0.heap.size w0 w6) := HB6.out.trans (hb6.mono HB6.out.size)
        have HC7 := Lib.hid (Kd.C_below HC6.out hb6)
        have HD7 := Lib.hid (Kd.C_below HD6.out hb6)
        clear HB6 HC6 HD6 hb6
        go_wp2_with fail
        refine (HOWN.out A3 c3 Y w6 HD7.out hc3 hlr).mono ?_
        rintro e w7 ⟨⟨A5, c5, rfl, hc5, hC5⟩, hb7⟩
        have HE5 := Lib.hid hC5
        have HB8 : Hid (Below w0.heap.size w0 w7) := HB7.out.trans (hb7.mono HB7.out.size)
        have HC8 := Lib.hid (Kd.C_below HC7.out hb7)
        clear HB7 HC7 HD7 hC5 hb7
        go_wp2_with fail
        refine (HF2.out A5 c5 w7 HE5.out hc5).mono ?_
        rintro e w8 ⟨rfl, hb8⟩
        have HB9 : Hid (Below w0.heap.size w0 w8) := HB8.out.trans (hb8.mono HB8.out.size)
        have HC9 := Lib.hid (Kd.C_below HC8.out hb8)
        clear HB8 HC8 HE5 hb8
        go_wp2_with fail
        refine (stewardref19_Check.calls kr A2 c2 X 1 w8 HC9.out hc2 HREF.out).mono ?_
        rintro e w9 ⟨rfl, hb9⟩
        have HB10 : Hid (Below w0.heap.size w0 w9) := HB9.out.trans (hb9.mono HB9.out.size)
        clear HB9 HC9 hb9
        go_wp2_with fail
        go_ret
        exact ⟨rfl, HB10.out⟩
end Go.Proofs.YtbcmmmcbineipaaDoor
set_option linter.unusedVariables false
set_option linter.unusedSimpArgs false
namespace Go.Proofs.YtbcmmmcbineipaaDoor
open Go.RowKit Go.Proofs.YtbcmmmcbineipaaDoorW.PrintWords Go.Proofs.YtbcmmmcbineipaaDoorW.PrintLast Go.Proofs.YtbcmmmcbineipaaDoorW.PrintMore
open Go.Proofs.YtbcmmmcbineipaaDoor.PR
theorem mask_range (a : Int) : 0 ≤ Go.bits .and .i64 a 65535 ∧ Go.bits .and .i64 a 65535 ≤ 65535 := by
  have hb : (BitVec.ofInt 64 65535).toNat = 65535 := by decide
  have h : (BitVec.ofInt 64 a &&& BitVec.ofInt 64 65535).toNat ≤ 65535 := by
    rw [BitVec.toNat_and, hb]
    exact Nat.and_le_right
  show 0 ≤ IntKind.i64.wrap ((BitVec.ofInt 64 a &&& BitVec.ofInt 64 65535).toNat : Nat) ∧ IntKind.i64.wrap ((BitVec.ofInt 64 a &&& BitVec.ofInt 64 65535).toNat : Nat) ≤ 65535
  generalize (BitVec.ofInt 64 a &&& BitVec.ofInt 64 65535).toNat = m at h
  have e : IntKind.i64.wrap (m : Int) = m := by unfold IntKind.wrap; simp [IntKind.bits, IntKind.signed]; omega
  rw [e]
  omega
theorem lit0 (w : World) : Kd.R k46 46 (w.alloc (.cells #[] 46)) w.heap.size (fun _ => True) (.slice (some ⟨w.heap.size, 0, none⟩) 0 0) [] := by
  refine ⟨fun k hk => trivial, [], ?_, Reps.none _ _⟩
  have h := World.ownsRow_lit (base := w.heap.size) (e := 46) (size := 2) w #[] 0 (Nat.le_refl _) (by unfold maxLen; omega) (by simp)
  exact h
theorem app46_step {ops : Array Oper} {o : Oper} {a : Act} {Kc : Act → World → Prop} {Q : Exit → Act → World → Prop} {w0 W : World} (base : Nat) (hw : Region.wanted o (yielded ops a.tmps) = true) (s x : Operand)
    (ho : o.op = .call { callee := .builtin .append, args := #[s, x], argTypes := #[22, 22] }) (v : Value) (xs ys : List S46) (A : Option Addr) (m c : Nat) (hs : a.eval s = v) (hx : a.eval x = .slice A m c)
    (HO : Kd.R k46 46 W base (fun _ => True) v xs) (HR : Kd.C k46 W A m ys) (HB : Below base w0 W) (hbase : base ≤ W.heap.size) (hl : xs.length + m ≤ 1000)
    (h : ∀ v1 w1, Kd.R k46 46 w1 base (fun _ => True) v1 (xs ++ ys) → Below base w0 w1 → Kc (a.put o.dst v1) w1) :
    if Region.wanted o (yielded ops a.tmps) = true then Oper.wp Tryd.prog o a W Kc Q else Kc (a.put o.dst undef) W :=
  Kd.R_append_rows_step (P := Tryd.prog) k46 base hw s x 22 46 _ 24 ho Tryd.underlying22 info46 rfl (by decide) (by decide) v xs ys A m c (fun _ => True) (fun _ => False) hs hx HO HR (fun _ _ h => h) (fun _ h => h.elim) (fun _ _ => trivial) HB hbase (by omega) (fun v1 w1 h1 h2 _ _ => h v1 w1 h1 h2)
def great0 (l : List S46) : Int := l.foldl (fun g e => max g e.f1) 0
theorem great0_succ (l : List S46) (k : Nat) (h : k < l.length) : great0 (l.take (k + 1)) = max (great0 (l.take k)) l[k].f1 := by
  unfold great0
  rw [List.take_succ_eq_append_getElem h, List.foldl_append]
  rfl
theorem great0_eq (l : List S46) (h : l ≠ []) (hw : ∀ e ∈ l, okW e) : great0 l = greatest l := by
  cases l with
  | nil => exact absurd rfl h
  | cons e l =>
    have := (hw e (by simp)).1
    unfold great0 greatest
    rw [List.foldl_cons, List.foldl_cons]
    congr 1
    omega
set_option maxHeartbeats 800000 in
set_option maxRecDepth 100000 in
theorem little_calls (s : ByteArray) (A : Option Addr) (c : Nat) (l : List S46) (which x : Int) (w0 : World) (hr : Kd.C k46 w0 A l.length l) (hc : l.length ≤ c) (hwh : -9223372036854775808 ≤ which ∧ which ≤ 9223372036854775807) :
    Calls Tryd.prog 6 #[.agg #[.string s, .slice A l.length c, .int .i64 which, .int .u64 x]] w0 fun e w' => e = .returned (.bool true) ∧ Below w0.heap.size w0 w' := by
  have HR := Lib.hid hr
  clear hr
  obtain ⟨i0, hi0, hz0, hz1, hz2⟩ := info_parts info46
  have hbB := Lib.hid (blk_new w0 (.cells #[.string s, .slice A l.length c, .int .i64 which, .int .u64 x] 56))
  have HB := Lib.hid (below_alloc (Below.refl w0.heap.size w0) (.cells #[.string s, .slice A l.length c, .int .i64 which, .int .u64 x] 56))
  go_enter Tryd.func6, Tryd.ntmps6
  go_wp2_with fail
  generalize w0.alloc (.cells #[.string s, .slice A l.length c, .int .i64 which, .int .u64 x] 56) = wb at hbB HB ⊢
  refine (awake_calls _).mono ?_
  rintro e w1 ⟨rfl, hb1⟩
  have HB1 := Lib.hid (HB.out.trans (hb1.mono HB.out.size))
  have HX1 := Lib.hid (blk_below hbB.out hb1)
  clear hb1 HB hbB
  go_wp2_with fail
  have c0 := blk_cell HX1.out 0
  have c1 := blk_cell HX1.out 1
  have c2 := blk_cell HX1.out 2
  have c3 := blk_cell HX1.out 3
  simp only [List.getElem?_toArray, List.getElem?_cons_zero, List.getElem?_cons_succ] at c0 c1 c2 c3
  have h6 : stewardlaw18_Few.f (min l.length 6 + 1) l 6 = some (fewOf l 6) := few_f l 6 (by omega)
  have hcall := fun w (h : Kd.C k46 w A l.length l) => stewardlaw18_Few.calls _ A c l 6 (fewOf l 6) w h hc h6
  have HF := Lib.hid hcall
  have hcw : Kd.C k46 w1.drew A l.length l := Kd.C_below (Kd.C_below HR.out HB1.out) (Below.refl _ _).drew
  have HCW := Lib.hid hcw
  clear hcall hcw h6
  go_region_held3 (fun w' => w'.cell? ⟨w0.heap.size, 0, none⟩ = some (.string s) ∧ w'.cell? ⟨w0.heap.size, 1, none⟩ = some (.slice A l.length c) ∧ w'.cell? ⟨w0.heap.size, 2, none⟩ = some (.int .i64 which) ∧ w'.cell? ⟨w0.heap.size, 3, none⟩ = some (.int .u64 x))
    (first
      | exact ⟨c0, c1, c2, c3⟩
      | (go_split_ands; exact ⟨cell_later hb2 c0, cell_later hb2 c1, cell_later hb2 c2, cell_later hb2 c3⟩))
    (first
      | (go_at_call 8; refine (HF.out w1.drew HCW.out).mono ?_; rintro e w2 ⟨v2, rfl, hR2, hb2⟩))
  obtain ⟨A2, c2', rfl, hc2, hC2⟩ := Kd.R_reads hR2
  have HB2 : Hid (Below w0.heap.size w0 w2) := HB1.out.drew.trans (hb2.mono HB1.out.size)
  have hX5 := fewOf_length l 6
  have hXs := fewOf_size l 6
  obtain ⟨X, HX⟩ : ∃ X : List S46, Hid (X = fewOf l 6) := ⟨_, rfl⟩
  simp only [← HX.out] at hc2 hC2 hX5 hXs ⊢
  have HC2 := Lib.hid hC2
  have HXS := Lib.hid hXs
  clear hR2 hb2 hC2 hXs c0 c1 c2 c3 HF HCW HX1
  go_wp2_with fail
  go_loopw [7, 33] (fun gv i wr => ∃ k : Nat, k ≤ X.length ∧ i = .int .i64 k ∧ gv = .int .i64 (great0 (X.take k)) ∧ Hid (Below w2.heap.size w2 wr)) (fun _ i _ => X.length - (intOf i).toNat)
  case atStart => exact ⟨0, Nat.zero_le _, rfl, rfl, Below.refl _ _⟩
  case round =>
    obtain ⟨k, hk, rfl, rfl, HB3⟩ := hrel
    by_cases hlt : k < X.length
    · obtain ⟨ad, rfl, hc0, hc1⟩ := e46_at (Kd.C_below HC2.out HB3.out) k hlt
      obtain ⟨x', Hx⟩ : ∃ x' : S46, Hid (x' = X[k]) := ⟨X[k], rfl⟩
      rw [← Hx.out] at hc0 hc1
      have hg := great0_succ X k hlt
      rw [← Hx.out] at hg
      obtain ⟨G, HG⟩ : ∃ G : Int, Hid (G = great0 (X.take k)) := ⟨_, rfl⟩
      rw [← HG.out] at hg ⊢
      obtain ⟨G2, HG2⟩ : ∃ G2 : Int, Hid (G2 = great0 (X.take (k + 1))) := ⟨_, rfl⟩
      rw [← HG2.out] at hg
      have hg' : max G x'.f1 = G2 := hg.symm
      clear hg
      go_wp2_with fail
      go_roundw
      case rel => exact ⟨k + 1, by omega, by go_num, by rw [← HG2.out], HB3.out.alloc HB3.out.size _⟩
      case measure => simp [intOf]; omega
    · obtain rfl : k = X.length := by omega
      rw [List.take_length]
      obtain ⟨G, HG⟩ : ∃ G : Int, Hid (G = great0 X) := ⟨_, rfl⟩
      rw [← HG.out]
      have HC3 := Lib.hid (Kd.C_below HC2.out HB3.out)
      have HB4 : Hid (Below w0.heap.size w0 wr) := HB2.out.trans (HB3.out.mono HB2.out.size)
      obtain ⟨kr, rr, href, hr01, hrg⟩ := ref_check X (by omega)
      have HREF := Lib.hid href
      have HRG := Lib.hid hrg
      have HR01 := Lib.hid hr01
      clear href hrg hr01 HB3 hlt
      go_wp2_with fail
      refine (stewardref19_Check.calls kr A2 c2' X rr wr HC3.out hc2 HREF.out).mono ?_
      rintro e w4 ⟨rfl, hb4⟩
      have HB5 : Hid (Below w0.heap.size w0 w4) := HB4.out.trans (hb4.mono HB4.out.size)
      have HC5 := Lib.hid (Kd.C_below HC3.out hb4)
      clear HB4 HC3 hb4 HREF
      by_cases hz : rr = 0
      · subst hz
        by_cases h2 : X.length < 2
        · have hd : decide ((X.length : Int) < 2) = true := decide_eq_true (by omega)
          go_wp2_with fail
          go_ret
          exact ⟨rfl, HB5.out⟩
        · have hd : decide ((X.length : Int) < 2) = false := decide_eq_false (by omega)
          have hgd : good X := HRG.out.1 rfl
          have HGD := Lib.hid hgd
          clear hgd HRG HR01
          obtain ⟨m, Hm⟩ : ∃ m : Int, Hid (m = Go.bits .and .i64 which 65535) := ⟨_, rfl⟩
          have hm := mask_range which
          rw [← Hm.out] at hm
          have hme := Hm.out.symm
          obtain ⟨w, Hw⟩ : ∃ w : Nat, Hid (w = (m % X.length).toNat) := ⟨_, rfl⟩
          have hwn : (m % (X.length : Int)) = w := by rw [Hw.out, Int.toNat_of_nonneg (Int.emod_nonneg _ (by omega))]
          have hwl : w < X.length := by have := Int.emod_lt_of_pos m (show (0 : Int) < X.length by omega); omega
          have hwt : m.tmod (X.length : Int) = w := by rw [Int.tmod_eq_emod_of_nonneg hm.1, hwn]
          have hXn : ¬ X = [] := fun e => by rw [e] at h2; exact h2 (by decide)
          go_wp2_with fail
          have hwr : IntKind.i64.wrap ((w : Int) + 1) = w + 1 := by unfold IntKind.wrap; simp [IntKind.bits, IntKind.signed]; omega
          obtain ⟨ad, hAd, _, _⟩ := e46_at HC5.out w hwl
          have hAD := Lib.hid hAd
          subst hAd
          have q0 : (0 : Int) ≤ (w : Int) := by omega
          have q1 : (w : Int) ≤ (c2' : Int) := by omega
          have q2 : (0 : Int) ≤ (w : Int) + 1 := by omega
          have q3 : (w : Int) + 1 ≤ (X.length : Int) := by omega
          have q4 : (X.length : Int) ≤ (c2' : Int) := by omega
          have hCt := Kd.C_take HC5.out (m := w) (by omega)
          rw [show (X.take w).length = w by simp; omega] at hCt
          have hCd := Kd.C_drop HC5.out (m := w + 1) (by omega) hc2
          rw [List.length_drop] at hCd
          replace hCd : Kd.C k46 w4 (if c2' = w + 1 then some ad else some (ad.add ((w + 1) * 2))) (X.length - (w + 1)) (X.drop (w + 1)) := hCd
          have HCT := Lib.hid hCt
          have HCD := Lib.hid hCd
          clear hCt hCd
          have hbs : w4.heap.size ≤ ((w4.alloc (.cells #[] 46)).drew).heap.size := (below_alloc (Below.refl w4.heap.size w4) (.cells #[] 46)).drew.size
          have hl1 : ([] : List S46).length + w ≤ 1000 := by
            show 0 + w ≤ _
            omega
          have hl2 : (X.take w).length + (X.length - (w + 1)) ≤ 1000 := by rw [List.length_take]; omega
          go_region_held3 (fun w' => True) (first | trivial)
            (first
              | (refine app46_step (w0 := w4) w4.heap.size (by rfl) _ _ (by rfl) (.slice (some ⟨w4.heap.size, 0, none⟩) 0 0) [] (X.take w) (some ad) w c2' (by rfl) (by rfl) (Kd.R_drew (lit0 w4)) (Kd.C_below HCT.out (below_alloc (Below.refl _ _) (.cells #[] 46)).drew) (below_alloc (Below.refl _ _) (.cells #[] 46)).drew hbs hl1 ?_; intro v5 w5 hR5 hB5)
              | (refine app46_step (w0 := w4) w4.heap.size (by rfl) _ _ (by rfl) v5 (X.take w) (X.drop (w + 1)) (if c2' = w + 1 then some ad else some (ad.add ((w + 1) * 2))) (X.length - (w + 1)) (c2' - (w + 1)) (by rfl) (by rfl) hR5 (Kd.C_below HCD.out hB5) hB5 hB5.size hl2 ?_; intro v6 w6 hR6 hB6))
          have hB7 : Hid (Below w0.heap.size w0 w6) := HB5.out.trans (hB6.mono HB5.out.size)
          obtain ⟨Y, HY⟩ : ∃ Y : List S46, Hid (Y = X.take w ++ X.drop (w + 1)) := ⟨_, rfl⟩
          rw [← HY.out] at hR6
          have hYl : Y.length + 1 = X.length := by rw [HY.out]; simp; omega
          obtain ⟨A3, c3, rfl, hc3, hC3⟩ := Kd.R_reads hR6
          have HCY := Lib.hid hC3
          have HCX := Lib.hid (Kd.C_below HC5.out hB6)
          clear hR5 hR6 hB5 hB6 hC3 HCT HCD HC5 hbs hl1 hl2 q0 q1 q2 q3 q4 hme hwn hwt hm
          try refine NoPanic.normal ?_
          generalize (if c2' = w + 1 then some ad else some (ad.add ((w + 1) * 2))) = B3
          go_wp2_with fail
          go_loopw [11, 67] (fun gv i wr => ∃ k : Nat, k ≤ Y.length ∧ i = .int .i64 k ∧ gv = .int .i64 (great0 (Y.take k)) ∧ Hid (Below w6.heap.size w6 wr)) (fun _ i _ => Y.length - (intOf i).toNat)
          case atStart => exact ⟨0, Nat.zero_le _, rfl, rfl, Below.refl _ _⟩
          case round =>
            obtain ⟨k, hk, rfl, rfl, HB3⟩ := hrel
            by_cases hlt : k < Y.length
            · obtain ⟨ad3, rfl, hc0, hc1⟩ := e46_at (Kd.C_below HCY.out HB3.out) k hlt
              obtain ⟨x', Hx⟩ : ∃ x' : S46, Hid (x' = Y[k]) := ⟨Y[k], rfl⟩
              rw [← Hx.out] at hc0 hc1
              have hg := great0_succ Y k hlt
              rw [← Hx.out] at hg
              obtain ⟨G1, HG1⟩ : ∃ G : Int, Hid (G = great0 (Y.take k)) := ⟨_, rfl⟩
              rw [← HG1.out] at hg ⊢
              obtain ⟨G2, HG2⟩ : ∃ G2 : Int, Hid (G2 = great0 (Y.take (k + 1))) := ⟨_, rfl⟩
              rw [← HG2.out] at hg
              have hg' : max G1 x'.f1 = G2 := hg.symm
              clear hg
              go_wp2_with fail
              go_roundw
              case rel => exact ⟨k + 1, by omega, by go_num, by rw [← HG2.out], HB3.out.alloc HB3.out.size _⟩
              case measure => simp [intOf]; omega
            · obtain rfl : k = Y.length := by omega
              rw [List.take_length]
              obtain ⟨G2, HG2⟩ : ∃ G : Int, Hid (G = great0 Y) := ⟨_, rfl⟩
              rw [← HG2.out]
              have HB8 : Hid (Below w0.heap.size w0 wr) := hB7.out.trans (HB3.out.mono hB7.out.size)
              have HCX8 := Lib.hid (Kd.C_below HCX.out HB3.out)
              have HCY8 := Lib.hid (Kd.C_below HCY.out HB3.out)
              clear HB3 HCX HCY hB7 hlt
              by_cases hG : G2 = G
              · have hGd : (G2 == G) = true := by simpa using hG
                go_wp2_with fail
                refine (keyOf_calls _ _).mono ?_
                rintro e w7 ⟨rfl, hb7⟩
                obtain ⟨kb, Hkb⟩ : ∃ kb : List Int, Hid (kb = keyOf s) := ⟨_, rfl⟩
                have hkb : kb.length = 16 := by rw [Hkb.out]; exact keyOf_length _
                rw [← Hkb.out]
                obtain ⟨kl, Hkl⟩ : ∃ kl : List Value, Hid (kl = nums .u8 kb) := ⟨_, rfl⟩
                have hkl : kl.length = 16 := by rw [Hkl.out]; simp [nums, hkb]
                have hk1 : ∀ v ∈ kl, v.oneCell' = true := by
                  rw [Hkl.out]
                  intro v hv
                  obtain ⟨i, _, rfl⟩ := List.mem_map.1 hv
                  rfl
                rw [← Hkl.out]
                have hu := Tryd.underlying26
                have hi : (Tryd.prog.info? 26).map (·.size) = some kl.length := by rw [hkl]; kernel_rfl
                have HB9 : Hid (Below w0.heap.size w0 w7) := HB8.out.trans (hb7.mono HB8.out.size)
                have HCX9 := Lib.hid (Kd.C_below HCX8.out hb7)
                have HCY9 := Lib.hid (Kd.C_below HCY8.out hb7)
                clear hb7 HB8 HCX8 HCY8
                have hnew := heap_alloc_new w7 (.cells (List.replicate 16 (Value.int .u8 0)).toArray 26)
                have hth : (w7.alloc (.cells (List.replicate 16 (Value.int .u8 0)).toArray 26)).there w7.heap.size 0 kl.toArray.size := fun j hj => by
                  have hj' : j < 16 := by rw [← hkl]; simpa using hj
                  refine ⟨?_, blk_frozen hnew _⟩
                  rw [Nat.zero_add, blk_cell hnew]
                  simp [hj']
                have HTH := Lib.hid hth
                have his : (Tryd.prog.info? 26).map (·.size) = some kl.toArray.size := by rw [hi]; simp
                clear hth hnew
                go_wp2_with (first | (refine Go.wpList_store_mid rfl 26 (.tmp 14) (.tmp 80) rfl w7.heap.size 0 kl.toArray rfl rfl HTH.out his (all_oneCell_toArray hk1) ?_))
                have hB8' : Below w7.heap.size w7 ((w7.alloc (.cells (List.replicate 16 (Value.int .u8 0)).toArray 26)).setCells w7.heap.size 0 kl) := by
                  obtain ⟨s1, s2, s3, s4⟩ := setCells_same w7.heap.size kl 0 (w7.alloc (.cells (List.replicate 16 (Value.int .u8 0)).toArray 26))
                  exact ⟨s1, s2, s3, by rw [s4, World.size_alloc]; omega, fun k hk => (setCells_far kl _ k (by omega)).trans (Below.heap_alloc w7 _ k hk)⟩
                have rK := World.rangeAt_setCells_same (w7.alloc (.cells (List.replicate 16 (Value.int .u8 0)).toArray 26)) w7.heap.size 0 kl (by have := HTH.out; simpa using this)
                change Code.wp _ _ _ _ ((w7.alloc (.cells (List.replicate 16 (Value.int .u8 0)).toArray 26)).setCells w7.heap.size 0 kl)
                generalize (w7.alloc (.cells (List.replicate 16 (Value.int .u8 0)).toArray 26)).setCells w7.heap.size 0 kl = w8 at hB8' rK ⊢
                have HB10 : Hid (Below w0.heap.size w0 w8) := HB9.out.trans (hB8'.mono HB9.out.size)
                have HCX10 := Lib.hid (Kd.C_below HCX9.out hB8')
                have HCY10 := Lib.hid (Kd.C_below HCY9.out hB8')
                have HCXd : Hid (Kd.C k46 w8.drew (some ad) X.length X) := Kd.C_below HCX10.out (Below.refl _ _).drew
                clear hB8' HCX9 HCY9 HB9 his
                have hchk : chk X = 0 := (chk_good X (by omega) (fun e he => Nat.le_trans (HXS.out e he) (by unfold maxLen; omega))).2 HGD.out
                have hbx := fun (B : Option Addr) (d : Nat) (w : World) (h : Kd.C k46 w B X.length X) (hd : X.length ≤ d) => build_calls kb B d X 10 w hkb h hd (by omega) (fun e he => Nat.le_trans (HXS.out e he) (by omega)) (by omega) HGD.out.2 hchk
                have hox := fun (w : World) (h : Kd.C k46 w (some ad) X.length X) => own_calls (some ad) c2' X w h hc2 (by omega)
                rw [← Hkl.out] at hbx
                have HBX := Lib.hid hbx
                have HOX := Lib.hid hox
                clear hbx hox hchk
                go_region_held3 (fun w' => w'.rangeAt w7.heap.size 0 kl)
                  (first
                    | exact rK
                    | exact range_later hb9 rK
                    | exact range_later hb10 (range_later hb9 rK))
                  (first
                    | (go_at_call 11; refine (HOX.out w8.drew HCXd.out).mono ?_; rintro e w9 ⟨⟨A4, c4, rfl, hc4, hC4⟩, hb9⟩)
                    | (go_at_call 10; refine (HBX.out A4 c4 _ hC4 hc4).mono ?_; rintro e w10 ⟨⟨g1, rfl, hg1, hR1⟩, hb10⟩))
                have hB8 : Below w8.heap.size w8 w10 := by
                  have h1 : Below w8.heap.size w8 w9 := (Below.refl w8.heap.size w8).drew.trans hb9
                  exact h1.trans (hb10.mono h1.size)
                have hgrY : greatest Y = greatest X := by
                  have hYn : Y ≠ [] := fun e => by rw [e] at hYl; simp at hYl; omega
                  have hYw : ∀ e ∈ Y, okW e := fun e he => by
                    rw [HY.out] at he
                    rcases List.mem_append.1 he with h | h
                    · exact HGD.out.2 e (List.mem_of_mem_take h)
                    · exact HGD.out.2 e (List.mem_of_mem_drop h)
                  rw [← great0_eq Y hYn hYw, ← great0_eq X hXn HGD.out.2, ← HG2.out, ← HG.out, hG]
                have hgY : good Y := by
                  have hsub : Y.Sublist X := by
                    rw [HY.out]
                    have h := (List.Sublist.refl (X.take w)).append (List.drop_sublist_drop_left X (show w ≤ w + 1 by omega))
                    rwa [List.take_append_drop] at h
                  exact ⟨(hsub.map _).nodup HGD.out.1, fun e he => HGD.out.2 e (hsub.mem he)⟩
                have hYs : ∀ e ∈ Y, e.f0.size ≤ 13 := fun e he => by
                  rw [HY.out] at he
                  rcases List.mem_append.1 he with h | h
                  · exact HXS.out e (List.mem_of_mem_take h)
                  · exact HXS.out e (List.mem_of_mem_drop h)
                have hchkY : chk Y = 0 := (chk_good Y (by omega) (fun e he => Nat.le_trans (hYs e he) (by unfold maxLen; omega))).2 hgY
                obtain ⟨na, nb, nt, hN, hNl, hPa, hPb⟩ := little kb 10 X w hwl (by omega) HGD.out (by rw [← HY.out]; exact hgrY) x
                rw [← HY.out] at hPa hPb
                have hnm : ∀ p ∈ ptSort (rawPts kb 10 X), p.f1.size ≤ maxLen := fun p hp => by
                  obtain ⟨e, he, hpe⟩ := List.mem_flatMap.1 ((ptSort_perm _).mem_iff.1 hp)
                  rw [pts_name _ _ _ _ _ hpe]
                  exact Nat.le_trans (HXS.out e he) (by unfold maxLen; omega)
                have hwk := fun (w' : World) (h : RingAt w' g1 (ptSort (rawPts kb 10 X))) => walk_calls g1 _ x w' h (ringAsc (rawPts kb 10 X)) hnm
                rw [hN, hNl] at hwk
                have hpk := fun (g2 : Nat) (w' : World) (h : RingAt w' g2 (ptSort (rawPts kb 10 Y))) => pick_calls g2 _ x w' h (ringAsc (rawPts kb 10 Y))
                have hby := fun (B : Option Addr) (d : Nat) (w : World) (h : Kd.C k46 w B Y.length Y) (hd : Y.length ≤ d) => build_calls kb B d Y 10 w hkb h hd (by omega) (fun e he => Nat.le_trans (hYs e he) (by omega)) (by omega) hgY.2 hchkY
                have hoy := fun (w : World) (h : Kd.C k46 w A3 Y.length Y) => own_calls A3 c3 Y w h hc3 (by omega)
                rw [← Hkl.out] at hby
                obtain ⟨L1, HL1⟩ : ∃ L : List S67, Hid (L = ptSort (rawPts kb 10 X)) := ⟨_, rfl⟩
                obtain ⟨L2, HL2⟩ : ∃ L : List S67, Hid (L = ptSort (rawPts kb 10 Y)) := ⟨_, rfl⟩
                simp only [← HL1.out] at hwk hR1
                simp only [← HL2.out] at hpk hby hPa hPb
                have HWK := Lib.hid hwk
                have HPK := Lib.hid hpk
                have HBY := Lib.hid hby
                have HOY := Lib.hid hoy
                have HPA := Lib.hid hPa
                have HPB := Lib.hid hPb
                have HB11 : Hid (Below w0.heap.size w0 w10) := HB10.out.trans (hB8.mono HB10.out.size)
                have HCX11 := Lib.hid (Kd.C_below HCX10.out hB8)
                have HCYd : Hid (Kd.C k46 w10.drew A3 Y.length Y) := Kd.C_below (Kd.C_below HCY10.out hB8) (Below.refl _ _).drew
                have rK2 : w10.rangeAt w7.heap.size 0 kl := range_later hB8 rK
                have HR11 := Lib.hid hR1
                clear hB8 hgrY hgY hYs hchkY hN hPa hPb hnm hwk hpk hby hoy hR1 hb9 hb10 hC4 rK HCX10 HCY10 HCXd HBX HOX HB10
                try refine NoPanic.normal ?_
                try clear hHeld
                go_wp2_with fail
                go_region_held3 (fun w' => w'.rangeAt w7.heap.size 0 kl)
                  (first
                    | exact rK2
                    | exact range_later hb12 rK2
                    | exact range_later hb13 (range_later hb12 rK2))
                  (first
                    | (go_at_call 11; refine (HOY.out w10.drew HCYd.out).mono ?_; rintro e w12 ⟨⟨A5, c5, rfl, hc5, hC5⟩, hb12⟩)
                    | (go_at_call 10; refine (HBY.out A5 c5 _ hC5 hc5).mono ?_; rintro e w13 ⟨⟨g2, rfl, hg2, hR2⟩, hb13⟩))
                have hB12 : Below w10.heap.size w10 w13 := by
                  have h1 : Below w10.heap.size w10 w12 := (Below.refl w10.heap.size w10).drew.trans hb12
                  exact h1.trans (hb13.mono h1.size)
                have HB14 : Hid (Below w0.heap.size w0 w13) := HB11.out.trans (hB12.mono HB11.out.size)
                have HCX14 := Lib.hid (Kd.C_below HCX11.out hB12)
                have HR14 := Lib.hid (HR11.out.below hB12)
                have HS14 := Lib.hid hR2
                have HNL := Lib.hid hNl
                clear hB12 hb12 hb13 hC5 rK2 HCX11 HCYd HBY HOY HB11 hR2 hNl HR11 hg1 hg2
                try refine NoPanic.normal ?_
                go_wp2_with fail
                refine (HWK.out _ HR14.out).mono ?_
                rintro e w15 ⟨⟨A6, c6, rfl, hc6, hC6⟩, hb15⟩
                have HB15 : Hid (Below w0.heap.size w0 w15) := HB14.out.trans (hb15.mono HB14.out.size)
                have HCX15 := Lib.hid (Kd.C_below HCX14.out hb15)
                have HS15 := Lib.hid (HS14.out.below hb15)
                have HC6 := Lib.hid hC6
                clear hb15 hC6 HB14 HCX14 HS14 HWK HR14
                go_wp2_with fail
                obtain ⟨ad6, rfl, hn0⟩ := str_at HC6.out 0 (by omega) HNL.out
                obtain ⟨_, hAd6, hn1⟩ := str_at HC6.out 1 (by omega) HNL.out
                obtain rfl := Option.some.inj hAd6
                simp only [List.getElem_cons_zero, List.getElem_cons_succ] at hn0 hn1
                obtain ⟨_, hAdx, hx0, _⟩ := e46_at HCX15.out w hwl
                obtain rfl := Option.some.inj hAdx
                obtain ⟨xn, Hxn⟩ : ∃ xn : ByteArray, Hid (xn = X[w].f0) := ⟨X[w].f0, rfl⟩
                rw [← Hxn.out] at hx0
                simp only [← Hxn.out] at HPA HPB
                have q0 : (0 : Int) ≤ (w : Int) := by omega
                have q1 : (w : Int) < (X.length : Int) := by omega
                have q2 : 2 ≤ X.length := by omega
                have q6 : (0 : Int) < (X.length : Int) := by omega
                have q7 : 0 < X.length := by omega
                clear h2
                have hn0' : w15.cell? ad6 = some (.string na) := by simpa [Addr.add] using hn0
                have hn1' : w15.cell? ⟨ad6.block, ad6.off + 1, none⟩ = some (.string nb) := hn1
                have hpk := fun n => HPK.out g2 (w15.drewN n) (HS15.out.below (pw_below_drewN (Below.refl _ _) n))
                by_cases hnx : na = xn
                · have hpe := HPA.out hnx
                  rw [hpe] at hpk
                  have HPQ := Lib.hid hpk
                  clear HPA HPB HPK hpe hpk
                  subst hnx
                  have q3 : ¬ (c6 = 1) := by omega
                  have q4 : (1 : Int) ≤ X.length := by omega
                  have q5 : (X.length : Int) ≤ c6 := by omega
                  go_quiet (fail)
                  go_wp2_with fail
                  have q8 : (0 : Int) < ((X.length - 1 : Nat) : Int) := by omega
                  have q9 : 0 < X.length - 1 := by omega
                  have q10 : 1 < X.length := by omega
                  go_region_held3 (fun w' => w'.cell? ⟨ad6.block, ad6.off + 1, none⟩ = some (.string nb))
                    (first
                      | exact hn1'
                      | exact cell_later hb16 hn1')
                    (first
                      | (go_at_call 17; refine (HPQ.out _).mono ?_; rintro e w16 ⟨rfl, hb16⟩))
                  have hb16' := Lib.hid hb16
                  clear hb16
                  try refine NoPanic.normal ?_
                  go_wp2_with fail
                  go_ret
                  exact ⟨rfl, HB15.out.trans (((pw_below_drewN (Below.refl _ _) _).trans hb16'.out).mono HB15.out.size)⟩
                · have hpe := HPB.out hnx
                  rw [hpe] at hpk
                  have HPQ := Lib.hid hpk
                  clear HPA HPB HPK hpe hpk
                  have hnl : (na.toList == xn.toList) = false := by
                    have : ¬ na.toList = xn.toList := fun e => hnx (data_inj (by rw [← Lib.toList_data, ← Lib.toList_data, e]))
                    simpa using this
                  clear hnx
                  go_quiet (fail)
                  go_wp2_with fail
                  go_region_held3 (fun w' => w'.cell? ad6 = some (.string na))
                    (first
                      | exact hn0'
                      | exact cell_later hb16 hn0')
                    (first
                      | (go_at_call 17; refine (HPQ.out _).mono ?_; rintro e w16 ⟨rfl, hb16⟩))
                  have hb16' := Lib.hid hb16
                  clear hb16
                  try refine NoPanic.normal ?_
                  go_wp2_with fail
                  go_ret
                  exact ⟨rfl, HB15.out.trans (((pw_below_drewN (Below.refl _ _) _).trans hb16'.out).mono HB15.out.size)⟩
              · have hGd : (G2 == G) = false := by simpa using hG
                go_wp2_with fail
                go_ret
                exact ⟨rfl, HB8.out⟩
      · have hne : (rr == 0) = false := by simpa using hz
        go_wp2_with fail
        go_ret
        exact ⟨rfl, HB5.out⟩
end Go.Proofs.YtbcmmmcbineipaaDoor
