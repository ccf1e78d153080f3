/- What the laws of the reference's ring share. -/
import Derived.Test.YtbcmmmcbineipaaDoorRfE
set_option linter.unusedVariables false
set_option linter.unusedSimpArgs false
namespace Go.Proofs.YtbcmmmcbineipaaDoor
open Go.RowKit Go.Proofs.YtbcmmmcbineipaaDoorW.PrintWords Go.Proofs.YtbcmmmcbineipaaDoorW.PrintLast Go.Proofs.YtbcmmmcbineipaaDoorW.PrintMore
open Go.Proofs.YtbcmmmcbineipaaDoor.PR

def to41 (p : S67) : S41 := ⟨p.f0, p.f1⟩
theorem pts41_reads {w : World} {g : Nat} {l : List S67} (hl : l.length ≤ 9223372036854775807) (hc : ∀ (k : Nat) (hk : k < l.length), w.cell? ⟨g, k * 2, none⟩ = some (.int .u64 l[k].f0) ∧ w.cell? ⟨g, k * 2 + 1, none⟩ = some (.string l[k].f1)) :
    Kd.C k41 w (some ⟨g, 0, none⟩) (l.map to41).length (l.map to41) := by
  have hlm : (l.map to41).length = l.length := List.length_map _
  refine ⟨rfl, by omega, fun hn => ⟨_, rfl, fun j p hj => ?_⟩⟩
  obtain ⟨hj1, rfl⟩ := List.getElem?_eq_some_iff.1 hj
  rw [hlm] at hj1
  obtain ⟨h0, h1⟩ := hc j hj1
  refine ⟨[.int .u64 l[j].f0, .string l[j].f1], rfl, ⟨[.int .u64 l[j].f0], [.string l[j].f1], rfl, ?_, ?_⟩, fun i u hu => ?_⟩
  · rw [List.getElem_map]; rfl
  · rw [List.getElem_map]; rfl
  rw [show k41.sz = 2 from rfl, add_at, Nat.zero_add]
  match i, hu with
  | 0, hu => rw [Nat.add_zero, h0]; exact hu
  | 1, hu => rw [h1]; exact hu
theorem own_pts41 {w : World} {base n : Nat} {v : Value} {l : List S67} (h : w.ownsRow base 41 2 v n (flat l)) (hn : n = l.length) : ∃ A c, v = .slice A l.length c ∧ l.length ≤ c ∧ Kd.C k41 w A l.length (l.map to41) := by
  subst hn
  have hlm : (l.map to41).length = l.length := List.length_map _
  rcases h.2 with ⟨rfl, h0⟩ | ⟨g, cap, cur, rfl, hbg, hg, hnc, hcm, hcs, htake⟩
  · obtain rfl : l = [] := List.eq_nil_of_length_eq_zero h0
    exact ⟨none, 0, rfl, Nat.le_refl _, ⟨rfl, by show 0 ≤ _; omega, fun h => absurd h (by simp)⟩⟩
  · have hcell : ∀ j, j < l.length * 2 → w.cell? ⟨g, j, none⟩ = (flat l)[j]? := fun j hj => by
      rw [cell_of_row w g j cur 41 (0, 0) hg, ← htake, List.getElem?_take, if_pos hj, Array.getElem?_toList]
    refine ⟨_, cap, rfl, hnc, ?_⟩
    have hr := pts41_reads (w := w) (g := g) (l := l) (by unfold maxLen at hcm; omega) (fun k hk => by
      rw [hcell _ (by omega), hcell _ (by omega)]
      exact flat_get l k hk)
    rwa [hlm] at hr
theorem okB_keyOf (s : ByteArray) : okB (keyOf s) := by
  intro b hb
  unfold keyOf at hb
  rcases List.mem_append.1 hb with h | h
  · exact okB_bytes s b (List.mem_of_mem_take h)
  · obtain rfl := List.eq_of_mem_replicate h
    omega
theorem byte_back (b : Int) (h : 0 ≤ b ∧ b ≤ 255) : ((UInt8.ofNat b.toNat).toNat : Int) = b := by
  rw [UInt8.toNat_ofNat']
  omega
theorem bytes_of_nums (xs : List Int) (h : okB xs) : bytesOf (strOfNums xs) = xs := by
  unfold bytesOf strOfNums
  simp only [List.toList_toArray, List.map_map]
  conv => rhs; rw [← List.map_id xs]
  exact List.map_congr_left (fun b hb => byte_back b (h b hb))
theorem and15_range (a : Int) : 0 ≤ Go.bits .and .i64 a 15 ∧ Go.bits .and .i64 a 15 ≤ 15 := by
  have hb : (BitVec.ofInt 64 15).toNat = 15 := by decide
  have h : (BitVec.ofInt 64 a &&& BitVec.ofInt 64 15).toNat ≤ 15 := by
    rw [BitVec.toNat_and, hb]
    exact Nat.and_le_right
  show 0 ≤ IntKind.i64.wrap ((BitVec.ofInt 64 a &&& BitVec.ofInt 64 15).toNat : Nat) ∧ IntKind.i64.wrap ((BitVec.ofInt 64 a &&& BitVec.ofInt 64 15).toNat : Nat) ≤ 15
  generalize (BitVec.ofInt 64 a &&& BitVec.ofInt 64 15).toNat = m at h
  have e : IntKind.i64.wrap (m : Int) = m := by unfold IntKind.wrap; simp [IntKind.bits, IntKind.signed]; omega
  rw [e]
  omega
theorem p41_at {w : World} {A : Option Addr} {l : List S67} (h : Kd.C k41 w A l.length (l.map to41)) (k : Nat) (hk : k < l.length) : ∃ ad, A = some ad ∧ w.cell? (ad.add (k * 2)) = some (.int .u64 l[k].f0) ∧ w.cell? ⟨(ad.add (k * 2)).block, (ad.add (k * 2)).off + 1, none⟩ = some (.string l[k].f1) := by
  obtain ⟨ad, rfl, hc0, hc1⟩ := at_T41 h (k : Int) (by omega) (by omega)
  have ex : rd_T41 (l.map to41) (k : Int) = to41 l[k] := by simp [rd_T41, List.getD_eq_getElem?_getD, List.getElem?_eq_getElem hk]
  rw [ex] at hc0 hc1
  simp only [Int.toNat_natCast] at hc0 hc1
  exact ⟨ad, rfl, hc0, hc1⟩
end Go.Proofs.YtbcmmmcbineipaaDoor
