/- May a ring be made? -/
import Derived.Test.YtbcmmmcbineipaaDoorSipF
import Derived.Maps.OwnSet
import Derived.Carry
set_option linter.unusedVariables false
set_option linter.unusedSimpArgs false
namespace Go.Proofs.YtbcmmmcbineipaaDoor
open Go.RowKit Go.Proofs.YtbcmmmcbineipaaDoorW.PrintWords Go.Proofs.YtbcmmmcbineipaaDoorW.PrintLast Go.Proofs.YtbcmmmcbineipaaDoorW.PrintMore
open Go.Proofs.YtbcmmmcbineipaaDoor.PR Go.Maps Go.WideMaps

theorem run_makeMap_hint (n : Int) (w : World) : (Instr.makeMap 76 (some (.int .i64 n))).run Tryd.prog w = .ok (.map (some w.heap.size)) (w.alloc (.map #[] 0)) := by
  simp [Instr.makeMap, run_underlying Tryd.underlying76, asInt, asIntOf]
def keyL (s : ByteArray) : Lit := .string s.data.toList
def keysOf (l : List S46) : List Lit := l.map fun e => keyL e.f0
def setN (l : List S46) : DataW Unit := setOf (.agg []) (keysOf l)
theorem setN_nil : setN [] = .map [] := by simp [setN, keysOf, setOf]
theorem setN_succ (l : List S46) (k : Nat) (h : k < l.length) : setN (l.take (k + 1)) = (setN (l.take k)).put (keyL l[k].f0) (.agg []) := by
  unfold setN keysOf
  rw [List.take_succ_eq_append_getElem h, List.map_append, List.map_singleton, setOf_snoc]
def badW (e : S46) : Bool := decide (e.f1 < 1) || decide (65535 < e.f1)
def chk (l : List S46) : Int := if l.any badW then 1 else if 1024 < l.length then 1 else if Maps.size (setN l) < l.length then 1 else 0
theorem law9 : Keyed Tryd.prog 9 := string_keyed Tryd.underlying9

set_option maxHeartbeats 1000000 in
set_option maxRecDepth 100000 in
theorem chk_calls (A : Option Addr) (c : Nat) (l : List S46) (w0 : World) (hr : Kd.C k46 w0 A l.length l) (hc : l.length ≤ c) (hl : l.length ≤ 1000000) (hs : ∀ e ∈ l, e.f0.size ≤ maxLen) :
    Calls Tryd.prog 22 #[.slice A l.length c] w0 fun e w' => e = .returned (.int .i64 (chk l)) ∧ Below w0.heap.size w0 w' := by
  have HR := Lib.hid hr
  have HS := Lib.hid hs
  clear hr hs
  have hmm := run_makeMap_hint
  go_enter Tryd.func22, Tryd.ntmps22
  go_wp2_with fail
  go_loopw [11] (fun i wr => ∃ k : Nat, k ≤ l.length ∧ i = .int .i64 k ∧ Hid ((l.take k).any badW = false) ∧ Hid (wr.ownsMap Tryd.prog 9 (unitElem (H := Unit)) w0.heap.size k (setN (l.take k))) ∧ Hid (Below w0.heap.size w0 wr)) (fun i _ => l.length - (intOf i).toNat)
  case atStart => exact ⟨0, Nat.zero_le _, rfl, rfl, by rw [List.take_zero, setN_nil]; exact World.ownsMap_made _ _ _ _, below_alloc (Below.refl _ _) _⟩
  case round =>
    obtain ⟨k, hk, rfl, HF, HO, HB⟩ := hrel
    by_cases hlt : k < l.length
    · obtain ⟨ad, rfl, hc0, hc1⟩ := at_T46 (Kd.C_below HR.out HB.out) (k : Int) (by omega) (by omega)
      obtain ⟨x, Hx⟩ : ∃ x : S46, Hid (x = l[k]) := ⟨l[k], rfl⟩
      have ex : rd_T46 l (k : Int) = x := by rw [Hx.out]; simp [rd_T46, List.getD_eq_getElem?_getD, List.getElem?_eq_getElem hlt]
      rw [ex] at hc0 hc1
      simp only [Int.toNat_natCast] at hc0 hc1
      clear ex
      have hbad : ∀ h : badW x = true, chk l = 1 := fun h => by
        have : l.any badW = true := List.any_eq_true.2 ⟨l[k], List.getElem_mem hlt, by rw [← Hx.out]; exact h⟩
        rw [chk, if_pos this]
      have HBAD := Lib.hid hbad
      clear hbad
      by_cases b1 : x.f1 < 1
      · have E1 : Hid (chk l = 1) := HBAD.out (by simp [badW, b1])
        go_wp2_with fail
        go_ret
        exact ⟨by rw [E1.out]; rfl, below_alloc HB.out _⟩
      · by_cases b2 : 65535 < x.f1
        · have E1 : Hid (chk l = 1) := HBAD.out (by simp [badW, b2])
          go_wp2_with fail
          go_ret
          exact ⟨by rw [E1.out]; rfl, below_alloc HB.out _⟩
        · have hkey : keyOf Tryd.prog 9 (.string x.f0) = some (keyL x.f0) := keyOf_string_mk Tryd.underlying9 (by rw [Hx.out]; exact HS.out _ (List.getElem_mem hlt))
          have HKEY := Lib.hid hkey
          clear hkey
          have HF1 : Hid ((l.take (k + 1)).any badW = false) := by
            show _ = _
            rw [List.take_succ_eq_append_getElem hlt, List.any_append, HF.out, ← Hx.out]
            simp [badW, b1, b2]
          have hkm : k < maxLen := by unfold maxLen; omega
          go_wp2_with (first | (at_mapUpdate; refine wpList_mapUpdate_own _ rfl _ _ _ 76 rfl 9 77 law9 Tryd.underlying76 (unitElem (H := Unit)) w0.heap.size k _ rfl (HO.out.alloc _) hkm _ _ _ rfl rfl HKEY.out _ [] unitElem_mk ?_; intro w1 hown1 hgrow1; have HO1 := Lib.hid hown1; have HB1 : Hid (Below w0.heap.size w0 w1) := (below_alloc HB.out _).grown hgrow1 (by simp; have := HB.out.size; omega) (fun j hj => by injection hj with hj; omega); clear hown1 hgrow1))
          go_roundw
          case rel => exact ⟨k + 1, by omega, by go_num, HF1, (by rw [setN_succ l k hlt, ← Hx.out]; exact HO1), HB1⟩
          case measure => simp [intOf]; omega
    · obtain rfl : k = l.length := by omega
      rw [List.take_length] at HF HO
      obtain ⟨m, Hm⟩ : ∃ m : Nat, Hid (m = Maps.size (setN l)) := ⟨_, rfl⟩
      have hlen := HO.out.len Tryd.underlying76 3
      rw [← Hm.out] at hlen
      by_cases b1 : 1024 < l.length
      · have E1 : Hid (chk l = 1) := by
          show _ = _
          rw [chk, if_neg (by rw [HF.out]; decide), if_pos b1]
        have hd : decide (1024 < l.length) = true := decide_eq_true b1
        go_wp2_with fail
        go_ret
        exact ⟨by rw [E1.out]; rfl, HB.out⟩
      · have hd : decide (1024 < l.length) = false := decide_eq_false b1
        by_cases b2 : m < l.length
        · have E1 : Hid (chk l = 1) := by
            show _ = _
            rw [chk, if_neg (by rw [HF.out]; decide), if_neg b1, if_pos (by rw [← Hm.out]; exact b2)]
          have hd2 : decide (m < l.length) = true := decide_eq_true b2
          go_wp2_with fail
          go_ret
          exact ⟨by rw [E1.out]; rfl, HB.out⟩
        · have E1 : Hid (chk l = 0) := by
            show _ = _
            rw [chk, if_neg (by rw [HF.out]; decide), if_neg b1, if_neg (by rw [← Hm.out]; exact b2)]
          have hd2 : decide (m < l.length) = false := decide_eq_false b2
          go_wp2_with fail
          go_ret
          exact ⟨by rw [E1.out]; rfl, HB.out⟩
end Go.Proofs.YtbcmmmcbineipaaDoor
