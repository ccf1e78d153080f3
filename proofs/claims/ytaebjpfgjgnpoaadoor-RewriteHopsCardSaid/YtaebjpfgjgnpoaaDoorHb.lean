/- Small letters, and the fields of a name: the walks. -/
import Derived.Test.YtaebjpfgjgnpoaaDoorHa
import Derived.Test.YtaebjpfgjgnpoaaDoorPRx3
import Derived.Test.YtaebjpfgjgnpoaaDoorShelf
import Derived.Laws.IdiomStrings
import Derived.Lib.Hide
import Derived.Carry
import Derived.Deep.AppendLies
import Derived.Deep.RegionHeld3
set_option linter.unusedVariables false
set_option linter.unusedSimpArgs false
namespace Go.Proofs.YtaebjpfgjgnpoaaDoor
open Go.RowKit Go.Proofs.YtaebjpfgjgnpoaaDoorW.PrintWords Go.Proofs.YtaebjpfgjgnpoaaDoorW.PrintLast Go.Proofs.YtaebjpfgjgnpoaaDoorW.PrintMore
open Go.Proofs.YtaebjpfgjgnpoaaDoor.PR

theorem st_blk' {w : World} {g t : Nat} {cs : Array Value} {u : Value} {fr : Nat × Nat} (h : w.heap[g]? = some (.cells cs t fr)) (i : Nat) : (w.setCell ⟨g, i, none⟩ u).heap[g]? = some (.cells (cs.setIfInBounds i u) t fr) := by
  simp only [World.setCell, Array.getElem?_modify, if_true, h]
  rfl
/-- Bytes that a conversion has laid: they may be written. -/
def BRow (w : World) (g : Nat) (l : List UInt8) : Prop :=
  ∃ (cur : Array Value) (m : Nat), w.heap[g]? = some (.cells cur 5 (m, m + 1)) ∧ l.length ≤ m ∧ ∀ (j : Nat) (hj : j < l.length), cur[j]? = some (.int .u8 (l[j].toNat : Int))
theorem BRow.cell {w : World} {g : Nat} {l : List UInt8} (h : BRow w g l) (j : Nat) (hj : j < l.length) : w.cell? ⟨g, j, none⟩ = some (.int .u8 (l[j].toNat : Int)) := by
  obtain ⟨cur, m, hg, hm, hc⟩ := h
  rw [cell_of_row w g j cur _ _ hg]
  exact hc j hj
theorem BRow.free {w : World} {g : Nat} {l : List UInt8} (h : BRow w g l) (j : Nat) (hj : j < l.length) : w.frozen? ⟨g, j, none⟩ = false := by
  obtain ⟨cur, m, hg, hm, hc⟩ := h
  unfold World.frozen?
  rw [hg]
  show (decide (m ≤ j) && decide (j < m + 1)) = false
  rw [decide_eq_false (by omega)]
  rfl
theorem BRow.set {w : World} {g : Nat} {l : List UInt8} (h : BRow w g l) (j : Nat) (b : UInt8) : BRow (w.setCell ⟨g, j, none⟩ (.int .u8 (b.toNat : Int))) g (l.set j b) := by
  obtain ⟨cur, m, hg, hm, hc⟩ := h
  refine ⟨_, m, st_blk' hg j, by rw [List.length_set]; exact hm, fun i hi => ?_⟩
  rw [List.length_set] at hi
  have hi2 := hc i hi
  have hlt : i < cur.size := (Array.getElem?_eq_some_iff.1 hi2).1
  by_cases he : j = i
  · subst he
    rw [List.getElem_set_self, Array.getElem?_setIfInBounds_self_of_lt hlt]
  · rw [List.getElem_set_ne he, Array.getElem?_setIfInBounds_ne he]
    exact hi2
theorem BRow.later {w w' : World} {g : Nat} {l : List UInt8} (h : BRow w g l) (hb : Below w.heap.size w w') : BRow w' g l := by
  obtain ⟨cur, m, hg, hm, hc⟩ := h
  exact ⟨cur, m, blk_below hg hb, hm, hc⟩
theorem BRow.reads {w : World} {g : Nat} {l : List UInt8} (h : BRow w g l) (hl : l.length ≤ 9223372036854775807) : Kd.C (Kd.int .u8) w (some ⟨g, 0, none⟩) l.length (l.map fun b => (b.toNat : Int)) := by
  have hlm : (l.map fun b => (b.toNat : Int)).length = l.length := List.length_map _
  have hr := Kd.C_of_reads (enc := Value.int .u8) (h1 := fun _ => rfl) (w := w) (A := some ⟨g, 0, none⟩) (n := (l.map fun b => (b.toNat : Int)).length) (xs := l.map fun b => (b.toNat : Int)) (d := (0 : Int)) ⟨rfl, (by omega), fun hp => ⟨_, rfl, fun j hj => by
    rw [hlm] at hj
    rw [add_at, Nat.zero_add, h.cell j hj, List.getD_eq_getElem?_getD, List.getElem?_map, List.getElem?_eq_getElem hj]
    rfl⟩⟩
  rwa [hlm] at hr
theorem BRow.new (w : World) (s : ByteArray) (cap : Nat) (hc : s.size ≤ cap) : BRow (w.drew.alloc (.cells (bytesRow s cap) 5 ((bytesRow s cap).size, (bytesRow s cap).size + 1))) w.heap.size s.data.toList := by
  refine ⟨_, _, heap_alloc_new _ _, ?_, fun j hj => ?_⟩
  · have : s.data.size = s.size := rfl
    unfold bytesRow
    rw [Array.size_append, Array.size_map, Array.length_toList]
    omega
  · rw [Array.length_toList] at hj
    rw [bytesRow_at s cap j hj, Array.getElem_toList]
theorem str_of_bytes (l : List UInt8) : strOfNums (l.map fun b => (b.toNat : Int)) = ⟨l.toArray⟩ := by
  unfold strOfNums
  congr 1
  congr 1
  rw [List.map_map]
  conv => rhs; rw [← List.map_id l]
  refine List.map_congr_left (fun b _ => ?_)
  show UInt8.ofNat ((b.toNat : Int)).toNat = b
  rw [Int.toNat_natCast]
  simp
theorem lowB_val (b : UInt8) (h : 65 ≤ b.toNat ∧ b.toNat ≤ 90) : ((lowB b).toNat : Int) = (b.toNat : Int) + 97 - 65 := by
  unfold lowB
  rw [if_pos ⟨by rw [UInt8.le_iff_toNat_le]; exact h.1, by rw [UInt8.le_iff_toNat_le]; exact h.2⟩, UInt8.toNat_add]
  have : (32 : UInt8).toNat = 32 := rfl
  omega
theorem lowB_same (b : UInt8) (h : ¬ (65 ≤ b.toNat ∧ b.toNat ≤ 90)) : lowB b = b := by
  unfold lowB
  rw [if_neg (fun h2 => h ⟨by have := h2.1; rwa [UInt8.le_iff_toNat_le] at this, by have := h2.2; rwa [UInt8.le_iff_toNat_le] at this⟩)]
/-- The bytes so far in small letters. -/
def half (s : List UInt8) (k : Nat) : List UInt8 := (low s).take k ++ s.drop k
theorem half_length (s : List UInt8) (k : Nat) (hk : k ≤ s.length) : (half s k).length = s.length := by
  unfold half
  rw [List.length_append, List.length_take, List.length_drop, low_length]
  omega
theorem half_get (s : List UInt8) (k : Nat) (hk : k < s.length) : (half s k)[k]? = some s[k] := by
  unfold half
  rw [List.getElem?_append_right (by rw [List.length_take, low_length]; omega), List.length_take, low_length, Nat.min_eq_left (by omega), Nat.sub_self, List.getElem?_drop, Nat.add_zero, List.getElem?_eq_getElem hk]
theorem half_step (s : List UInt8) (k : Nat) (hk : k < s.length) : (half s k).set k (lowB s[k]) = half s (k + 1) := by
  unfold half
  rw [List.set_append_right _ _ (by rw [List.length_take, low_length]; omega), List.length_take, low_length, Nat.min_eq_left (by omega), Nat.sub_self, List.drop_eq_getElem_cons hk, List.set_cons_zero,
    List.take_succ_eq_append_getElem (by rw [low_length]; exact hk), List.append_assoc]
  congr 1
  show _ = [(low s)[k]'(by rw [low_length]; exact hk)] ++ _
  unfold low
  rw [List.getElem_map]
  rfl
theorem half_same (s : List UInt8) (k : Nat) (hk : k < s.length) (h : lowB s[k] = s[k]) : half s k = half s (k + 1) := by
  have h2 := half_step s k hk
  rw [h] at h2
  rw [← h2]
  apply List.ext_getElem?
  intro j
  by_cases he : k = j
  · subst he
    rw [half_get s k hk, List.getElem?_set_self (by rw [half_length s k (by omega)]; exact hk)]
  · rw [List.getElem?_set_ne he]
def LowRel (w0 : World) (s : List UInt8) (g : Nat) (i : Value) (wr : World) : Prop :=
  ∃ k : Nat, k ≤ s.length ∧ i = .int .i64 k ∧ Hid (BRow wr g (half s k)) ∧ Hid (Below w0.heap.size w0 wr)
set_option maxHeartbeats 400000 in
set_option maxRecDepth 100000 in
theorem lower_calls (s : ByteArray) (w0 : World) (hs : s.size ≤ 1000000) :
    Calls Tryd.prog 23 #[.string s] w0 fun e w' => e = .returned (.string ⟨(low s.data.toList).toArray⟩) ∧ Below w0.heap.size w0 w' := by
  have hcv := fun w => run_bytes_of_string (P := Tryd.prog) w 9 63 5 s Tryd.underlying9 Tryd.underlying63 Tryd.underlying5
  have hsz : s.data.toList.length = s.size := by rw [Array.length_toList]; rfl
  have HSZ := Lib.hid hsz
  clear hsz
  go_enter Tryd.func23, Tryd.ntmps23
  go_wp2_with fail
  clear hcv
  obtain ⟨cap, Hcap⟩ : ∃ cap : Nat, Hid (cap = grownCap w0 s.size 0 5) := ⟨_, rfl⟩
  have hcl : s.size ≤ cap := by rw [Hcap.out]; exact grownCap_ge _ _ _ _
  rw [← Hcap.out]
  have HR1 := Lib.hid (BRow.new w0 s cap hcl)
  have HB1 := Lib.hid (below_alloc (Below.refl w0.heap.size w0) (.cells (bytesRow s cap) 5 ((bytesRow s cap).size, (bytesRow s cap).size + 1))).drew
  have HR0 : Hid (BRow ((w0.alloc (.cells (bytesRow s cap) 5 ((bytesRow s cap).size, (bytesRow s cap).size + 1))).drew) w0.heap.size (half s.data.toList 0)) := HR1.out
  clear HR1
  generalize (w0.alloc (.cells (bytesRow s cap) 5 ((bytesRow s cap).size, (bytesRow s cap).size + 1))).drew = w1 at HR0 HB1 ⊢
  go_loopw [10] (fun i wr => LowRel w0 s.data.toList w0.heap.size i wr) (fun i _ => s.size - (intOf i).toNat)
  case atStart => exact ⟨0, Nat.zero_le _, rfl, HR0, HB1⟩
  case round =>
    obtain ⟨k, hk, rfl, HR, HB⟩ := hrel
    rw [HSZ.out] at hk
    by_cases hlt : k < s.size
    · have hkl : k < s.data.toList.length := by rw [HSZ.out]; exact hlt
      have hget := half_get s.data.toList k hkl
      have hhl := half_length s.data.toList k (by omega)
      have hc := HR.out.cell k (by omega)
      have hf := HR.out.free k (by omega)
      obtain ⟨b, Hb⟩ : ∃ b : UInt8, Hid (b = s.data.toList[k]) := ⟨s.data.toList[k], rfl⟩
      have hgb : (half s.data.toList k)[k]'(by omega) = b := by
        rw [List.getElem?_eq_getElem (by omega)] at hget
        rw [Hb.out]
        exact Option.some.inj hget
      rw [hgb] at hc
      clear hget hgb hhl
      have hb := b.toNat_lt
      by_cases hup : 65 ≤ b.toNat ∧ b.toNat ≤ 90
      · obtain ⟨hu1, hu2⟩ := hup
        have hv := lowB_val b ⟨hu1, hu2⟩
        have HRn : Hid (BRow (wr.setCell ⟨w0.heap.size, k, none⟩ (.int .u8 ((b.toNat : Int) + 97 - 65))) w0.heap.size (half s.data.toList (k + 1))) := by
          rw [← half_step s.data.toList k hkl, ← Hb.out, ← hv]
          exact HR.out.set k (lowB b)
        have HBn := Lib.hid (HB.out.setCell (p := ⟨w0.heap.size, k, none⟩) (Nat.le_refl _) (.int .u8 ((b.toNat : Int) + 97 - 65)))
        clear hv
        have t1 : decide (65 ≤ (b.toNat : Int)) = true := decide_eq_true (by omega)
        have t2 : decide ((b.toNat : Int) ≤ 90) = true := decide_eq_true (by omega)
        go_wp2_with fail
        go_roundw
        case rel => exact ⟨k + 1, by omega, by go_num, HRn, HBn⟩
        case measure => simp [intOf]; omega
      · have HRn : Hid (BRow wr w0.heap.size (half s.data.toList (k + 1))) := by
          rw [← half_same s.data.toList k hkl (by rw [← Hb.out]; exact lowB_same b hup)]
          exact HR.out
        by_cases hl : 65 ≤ b.toNat
        · have t1 : decide (65 ≤ (b.toNat : Int)) = true := decide_eq_true (by omega)
          have t2 : decide ((b.toNat : Int) ≤ 90) = false := decide_eq_false (by omega)
          clear hup
          go_wp2_with fail
          go_roundw
          case rel => exact ⟨k + 1, by omega, by go_num, HRn, HB⟩
          case measure => simp [intOf]; omega
        · have t1 : decide (65 ≤ (b.toNat : Int)) = false := decide_eq_false (by omega)
          clear hup
          go_wp2_with fail
          go_roundw
          case rel => exact ⟨k + 1, by omega, by go_num, HRn, HB⟩
          case measure => simp [intOf]; omega
    · obtain rfl : k = s.size := by omega
      have hfull : half s.data.toList s.size = low s.data.toList := by
        unfold half
        rw [List.take_of_length_le (by rw [low_length, HSZ.out]; exact Nat.le_refl _), List.drop_of_length_le (by rw [HSZ.out]; exact Nat.le_refl _), List.append_nil]
      have HRf := HR.out
      rw [hfull] at HRf
      have hrd := HRf.reads (by rw [low_length, HSZ.out]; omega)
      rw [low_length, HSZ.out] at hrd
      have hst := fun (c : Nat) => Kd.C_string (P := Tryd.prog) (src := 63) (dst := 9) (e := 5) (c := c) Tryd.underlying63 Tryd.underlying5 Tryd.underlying9 hrd
      rw [str_of_bytes] at hst
      clear hrd HRf hfull HSZ
      go_wp2_with fail
      go_ret
      exact ⟨rfl, HB.out⟩
end Go.Proofs.YtaebjpfgjgnpoaaDoor
