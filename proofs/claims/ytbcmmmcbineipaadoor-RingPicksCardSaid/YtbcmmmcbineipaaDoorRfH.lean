/- The reference's search and walk. -/
import Derived.Test.YtbcmmmcbineipaaDoorRfF
import Derived.Test.YtbcmmmcbineipaaDoorMf
set_option linter.unusedVariables false
set_option linter.unusedSimpArgs false
namespace Go.Proofs.YtbcmmmcbineipaaDoor
open Go.RowKit Go.Proofs.YtbcmmmcbineipaaDoorW.PrintWords Go.Proofs.YtbcmmmcbineipaaDoorW.PrintLast Go.Proofs.YtbcmmmcbineipaaDoorW.PrintMore
open Go.Proofs.YtbcmmmcbineipaaDoor.PR

theorem rfrom_plain (L : List S67) (x : Int) (hl : L.length ≤ 1000000) (hso : ∀ (a b : Nat) (ha : a ≤ b) (hb : b < L.length), L[a].f0 ≤ L[b].f0) (d : Nat) : ∀ i : Nat, i + d = L.length → (∀ (q : Nat) (hq : q < L.length), q < i → L[q].f0 < x) →
    stewardref19_From.l0 (d + 1) x (L.map to41) (L.length : Int) i = some (frm L x : Int) := by
  induction d with
  | zero =>
    intro i hi hlo
    rw [stewardref19_From.l0, if_neg (by omega)]
    have e := lowb_of L x L.length (Nat.le_refl _) (fun q hq _ => hlo q hq (by omega)) (fun q hq h => absurd hq (by omega))
    unfold frm
    rw [if_pos e]
    rfl
  | succ d ih =>
    intro i hi hlo
    have hil : i < L.length := by omega
    have hlm : (L.map to41).length = L.length := List.length_map _
    have ex : rd_T41 (L.map to41) (i : Int) = to41 L[i] := by simp [rd_T41, List.getD_eq_getElem?_getD, List.getElem?_eq_getElem hil]
    rw [stewardref19_From.l0, if_pos (by omega), if_pos (by omega), if_pos (by omega), ex]
    have e2 : wrap64 ((i : Int) + 1) = ((i + 1 : Nat) : Int) := by unfold wrap64; omega
    show (if L[i].f0 ≥ x then _ else _) = _
    by_cases h : L[i].f0 ≥ x
    · rw [if_pos h]
      have e := lowb_of L x i (by omega) hlo (fun q hq hqi => Int.le_trans h (hso i q hqi hq))
      unfold frm
      rw [e, if_neg (by omega)]
    · rw [if_neg h, e2]
      exact ih (i + 1) (by omega) (fun q hq hqi => by
        by_cases hqe : q = i
        · subst hqe; omega
        · exact hlo q hq (by omega))
theorem rfrom_calls (A : Option Addr) (c : Nat) (L : List S67) (x : Int) (w : World) (hr : Kd.C k41 w A L.length (L.map to41)) (hc : L.length ≤ c) (hl : L.length ≤ 1000000) (hso : ∀ (a b : Nat) (ha : a ≤ b) (hb : b < L.length), L[a].f0 ≤ L[b].f0) :
    Calls Tryd.prog 16 #[.slice A L.length c, .int .u64 x] w fun e w' => e = .returned (.int .i64 (frm L x)) ∧ Below w.heap.size w w' := by
  have hlm : (L.map to41).length = L.length := List.length_map _
  have h := stewardref19_From.calls (L.length + 1) A c (L.map to41) x (frm L x) w (by rw [hlm]; exact hr) (by omega) (by
    unfold stewardref19_From.f
    rw [hlm]
    exact rfrom_plain L x hl hso L.length 0 (by omega) (fun q _ h => absurd h (by omega)))
  rw [hlm] at h
  exact h
def hadB (N : List ByteArray) (m : Nat) (nm : ByteArray) : Bool := (N.take m).any fun s => s.toList == nm.toList
theorem hadB_succ (N : List ByteArray) (m : Nat) (nm : ByteArray) (h : m < N.length) : hadB N (m + 1) nm = (hadB N m nm || (N[m].toList == nm.toList)) := by
  unfold hadB
  rw [List.take_succ_eq_append_getElem h, List.any_append]
  simp
theorem hadB_all (N : List ByteArray) (nm : ByteArray) : hadB N N.length nm = decide (nm.data.toList ∈ N.map (·.data.toList)) := by
  unfold hadB
  rw [List.take_length, Bool.eq_iff_iff, List.any_eq_true, decide_eq_true_iff, List.mem_map]
  constructor
  · rintro ⟨s, hs, h⟩
    rw [beq_iff_eq, Lib.toList_data, Lib.toList_data] at h
    exact ⟨s, hs, h⟩
  · rintro ⟨s, hs, h⟩
    refine ⟨s, hs, ?_⟩
    rw [beq_iff_eq, Lib.toList_data, Lib.toList_data]
    exact h
def WalkRel (w0 : World) (L : List S67) (st : Nat) (v i : Value) (wr : World) : Prop :=
  ∃ k : Nat, k ≤ L.length ∧ i = .int .i64 k ∧ Hid (wr.ownsRow w0.heap.size 9 1 v (firsts (((rnd L st).take k).map (·.f1))).length ((firsts (((rnd L st).take k).map (·.f1))).map .string)) ∧ Hid (Below w0.heap.size w0 wr)
theorem own_form {w : World} {base size : Nat} {e : TypeId} {v : Value} {n : Nat} {xs : List Value} (h : w.ownsRow base e size v n xs) : ∃ A c, v = .slice A n c := by
  rcases h.2 with ⟨h1, h2⟩ | ⟨g, cap, cur, h1, _⟩
  · exact ⟨none, 0, by rw [h1, h2]⟩
  · exact ⟨_, _, h1⟩
set_option maxHeartbeats 1000000 in
set_option maxRecDepth 100000 in
theorem rwalk_calls (A : Option Addr) (c : Nat) (L : List S67) (x : Int) (w0 : World) (hr : Kd.C k41 w0 A L.length (L.map to41)) (hc : L.length ≤ c) (hl : L.length ≤ 1000000) (hso : ∀ (a b : Nat) (ha : a ≤ b) (hb : b < L.length), L[a].f0 ≤ L[b].f0) :
    Calls Tryd.prog 20 #[.slice A L.length c, .int .u64 x] w0 fun e w' => (∃ A' c', e = .returned (.slice A' (walkN L x).length c') ∧ (walkN L x).length ≤ c' ∧ Kd.C Kd.string w' A' (walkN L x).length (walkN L x)) ∧ Below w0.heap.size w0 w' := by
  have HR := Lib.hid hr
  obtain ⟨st, Hst⟩ : ∃ st : Nat, Hid (st = frm L x) := ⟨_, rfl⟩
  have hstl : st ≤ L.length := by rw [Hst.out]; exact frm_le L x
  have hfr := fun w h => rfrom_calls A c L x w h hc hl hso
  rw [← Hst.out] at hfr
  have HF := Lib.hid hfr
  have hw : walkN L x = firsts ((rnd L st).map (·.f1)) := by rw [Hst.out]; rfl
  rw [hw]
  clear hr hfr hso hw
  obtain ⟨i0, hi0, hz0, hz1, hz2⟩ := info_parts info9
  have HO1 : Hid ((w0.alloc (.cells #[] 9)).ownsRow w0.heap.size 9 1 (.slice (some ⟨w0.heap.size, 0, none⟩) 0 0) 0 []) := World.ownsRow_lit (base := w0.heap.size) (e := 9) (size := 1) w0 #[] 0 (Nat.le_refl _) (by unfold maxLen; omega) (by simp)
  have HB1 := Lib.hid (below_alloc (Below.refl w0.heap.size w0) (.cells #[] 9))
  go_enter Tryd.func20, Tryd.ntmps20
  go_wp2_with fail
  generalize w0.alloc (.cells #[] 9) = w1 at HO1 HB1 ⊢
  refine (HF.out _ (Kd.C_below HR.out HB1.out)).mono ?_
  rintro e w2 ⟨rfl, hb2⟩
  have HO2 := Lib.hid (own_later HO1.out hb2)
  have HB2 : Hid (Below w0.heap.size w0 w2) := HB1.out.trans (hb2.mono HB1.out.size)
  clear hb2 HO1 HB1 HF
  go_wp2_with fail
  go_loopw [5, 18] (fun v i wr => WalkRel w0 L st v i wr) (fun _ i _ => L.length - (intOf i).toNat)
  case atStart => exact ⟨0, Nat.zero_le _, rfl, (by rw [List.take_zero]; exact HO2), HB2⟩
  case round =>
    obtain ⟨k, hk, rfl, HO, HB⟩ := hrel
    obtain ⟨N, HN⟩ : ∃ N : List ByteArray, Hid (N = firsts (((rnd L st).take k).map (·.f1))) := ⟨_, rfl⟩
    have hNl : N.length ≤ k := by
      rw [HN.out]
      refine Nat.le_trans (firsts_length _) ?_
      rw [List.length_map, List.length_take]
      omega
    rw [← HN.out] at HO
    obtain ⟨A1, c1, rfl⟩ := own_form HO.out
    obtain ⟨_, _, hv, hNc, hCN⟩ := own_strs HO.out rfl
    simp only [Value.slice.injEq, true_and] at hv
    obtain ⟨rfl, rfl⟩ := hv
    have HCN := Lib.hid hCN
    clear hCN
    by_cases hlt : k < L.length
    · have hL0 : 0 < L.length := by omega
      obtain ⟨q, Hq⟩ : ∃ q : Nat, Hid (q = (st + k) % L.length) := ⟨_, rfl⟩
      have hql : q < L.length := by rw [Hq.out]; exact Nat.mod_lt _ hL0
      obtain ⟨ad, hAd, hc0, hc1⟩ := p41_at (Kd.C_below HR.out HB.out) q hql
      subst hAd
      obtain ⟨nm, Hnm⟩ : ∃ nm : ByteArray, Hid (nm = L[q].f1) := ⟨L[q].f1, rfl⟩
      rw [← Hnm.out] at hc1
      have hsum : IntKind.i64.wrap ((st : Int) + k) = (st : Int) + k := by unfold IntKind.wrap; simp [IntKind.bits, IntKind.signed]; omega
      have hmod : ((st : Int) + (k : Int)).tmod (L.length : Int) = (q : Int) := by
        rw [Int.tmod_eq_emod_of_nonneg (by omega), Hq.out]
        exact_mod_cast rfl
      have hne0 : ¬ ((L.length : Int) = 0) := by omega
      have b1 : (q : Int) < (L.length : Int) := by omega
      have b2 : (0 : Int) ≤ (q : Int) := by omega
      clear hc0
      go_wp2_with fail
      clear hsum hmod hne0 b1 b2 hc1
      go_loop [9, 33] (fun hv i => ∃ m : Nat, m ≤ N.length ∧ i = .int .i64 m ∧ hv = .bool (hadB N m nm)) (fun _ i => N.length - (intOf i).toNat)
      case atStart => exact ⟨0, Nat.zero_le _, rfl, rfl⟩
      case round =>
        obtain ⟨m, hm, rfl, rfl⟩ := hrel
        by_cases hlm : m < N.length
        · obtain ⟨ad1, hAd1, hs1⟩ := str_at HCN.out m hlm rfl
          subst hAd1
          have hsu := hadB_succ N m nm hlm
          obtain ⟨sm, Hsm⟩ : ∃ sm : ByteArray, Hid (sm = N[m]) := ⟨N[m], rfl⟩
          rw [← Hsm.out] at hs1 hsu
          obtain ⟨h1, Hh1⟩ : ∃ h1 : Bool, Hid (h1 = hadB N m nm) := ⟨_, rfl⟩
          rw [← Hh1.out] at hsu ⊢
          have HSU := Lib.hid hsu
          clear hsu
          cases h1 with
          | true =>
            go_wp2_with fail
            go_round
            case rel => exact ⟨m + 1, by omega, by go_num, by rw [HSU.out]; rfl⟩
            case measure => simp [intOf]; omega
          | false =>
            go_wp2_with fail
            go_round
            case rel => exact ⟨m + 1, by omega, by go_num, by rw [HSU.out]; rfl⟩
            case measure => simp [intOf]; omega
        · obtain rfl : m = N.length := by omega
          rw [hadB_all]
          have hnext : firsts (((rnd L st).take (k + 1)).map (·.f1)) = addN N nm := by
            rw [rnd_take L st k hlt, List.map_append, List.map_singleton, firsts_snoc, ← HN.out]
            congr 1
            rw [Hnm.out]
            congr 1
            exact getElem_congr_idx Hq.out.symm
          have HNX := Lib.hid hnext
          clear hnext
          by_cases hin : nm.data.toList ∈ N.map (·.data.toList)
          · have hd : decide (nm.data.toList ∈ N.map (·.data.toList)) = true := decide_eq_true hin
            have hadd : addN N nm = N := if_pos hin
            rw [hd]
            have HO' := HO.out
            rw [hadd] at HNX
            clear hd hin hadd
            have HOn : Hid (wr.ownsRow w0.heap.size 9 1 (.slice A1 N.length c1) (firsts (((rnd L st).take (k + 1)).map (·.f1))).length ((firsts (((rnd L st).take (k + 1)).map (·.f1))).map .string)) := by rw [HNX.out]; exact HO'
            clear HO'
            go_wp2_with fail
            go_roundw
            case rel => exact ⟨k + 1, by omega, by go_num, HOn, HB⟩
            case measure => simp [intOf]; omega
          · have hd : decide (nm.data.toList ∈ N.map (·.data.toList)) = false := decide_eq_false hin
            have hadd : addN N nm = N ++ [nm] := if_neg hin
            rw [hd]
            rw [hadd] at HNX
            clear hd hin hadd
            have hn9 : N.length + 1 ≤ maxLen := by unfold maxLen; omega
            have hn10 : (N.length + 1) * 16 ≤ 140737488355328 := by omega
            have hsz0 := HB.out.size
            have hsz2 : w0.heap.size ≤ (wr.alloc (.cells #[Value.string nm] 9)).heap.size := by rw [World.size_alloc]; omega
            have HSZ := Lib.hid hsz2
            clear hsz2
            go_wp2_with (at_builtin; refine wpList_append_lies _ rfl (.tmp 46) (.tmp 48) 51 rfl w0.heap.size 9 i0 _ 1 16 Tryd.underlying51 hi0 hz0 hz1 hz2 rfl (by omega) (.slice A1 N.length c1) N.length (N.map .string) rfl (HO.out.alloc _) ⟨wr.heap.size, 0, none⟩ 1 1 [.string nm] rfl rfl (World.news_of_block (cs := #[.string nm]) (t := 9) (fr := (0, 0)) (blk_new wr _)) (by simp [Value.oneCell']) (by omega) hn9 hn10 HSZ.out _ rfl ?_; intro gg cap w9 hown9 hgrow hat hlt9; have HO9 := Lib.hid hown9; have HB9 : Hid (Below w0.heap.size w0 w9) := (HB.out.alloc hsz0 _).grown hgrow HSZ.out (fun g hg => own_ge HO.out hg); clear hown9 hgrow)
            have HOn : Hid (w9.ownsRow w0.heap.size 9 1 (.slice (some ⟨gg, 0, none⟩) (N.length + 1) cap) (firsts (((rnd L st).take (k + 1)).map (·.f1))).length ((firsts (((rnd L st).take (k + 1)).map (·.f1))).map .string)) := by
              have h := HO9.out
              rw [HNX.out, List.map_append, List.length_append]
              exact h
            go_roundw
            case rel => exact ⟨k + 1, by omega, by go_num, HOn, HB9⟩
            case measure => simp [intOf]; omega
    · obtain rfl : k = L.length := by omega
      have hfull : (rnd L st).take L.length = rnd L st := List.take_of_length_le (by rw [rnd_length]; omega)
      rw [hfull] at HN
      go_wp2_with fail
      go_ret
      rw [← HN.out]
      exact ⟨⟨_, _, rfl, hNc, HCN.out⟩, HB.out⟩
end Go.Proofs.YtbcmmmcbineipaaDoor
