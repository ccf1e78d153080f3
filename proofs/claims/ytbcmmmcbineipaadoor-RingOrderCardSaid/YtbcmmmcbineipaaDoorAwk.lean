/- The fixed fact. -/
import Derived.Test.YtbcmmmcbineipaaDoorBldC
import Derived.Test.YtbcmmmcbineipaaDoorOwn
import Derived.Test.YtbcmmmcbineipaaDoorPick
set_option linter.unusedVariables false
set_option linter.unusedSimpArgs false
namespace Go.Proofs.YtbcmmmcbineipaaDoor
open Go.RowKit Go.Proofs.YtbcmmmcbineipaaDoorW.PrintWords Go.Proofs.YtbcmmmcbineipaaDoorW.PrintLast Go.Proofs.YtbcmmmcbineipaaDoorW.PrintMore
open Go.Proofs.YtbcmmmcbineipaaDoor.PR
theorem ptSort_perm (l : List S67) : (ptSort l).Perm l := List.mergeSort_perm l _
theorem ptSort_sorted (l : List S67) : (ptSort l).Pairwise (fun x y => ¬ ltP y x) := by
  have h := List.pairwise_mergeSort (le := fun x y => !(Go.Proofs.ltOf cmpP) y x) (fun a b c h1 h2 => ?_) (fun a b => ?_) l
  · refine List.Pairwise.imp (fun {a b} hab => ?_) h
    rw [ltOf_cmpP] at hab
    simpa using hab
  · simp only [ltOf_cmpP, Bool.not_eq_true', decide_eq_false_iff_not] at *
    intro h3
    rcases ltP_tri a b with k | rfl | k
    · exact h2 (ltP_trans h3 k)
    · exact h2 h3
    · exact h1 k
  · simp only [ltOf_cmpP, Bool.or_eq_true, Bool.not_eq_true', decide_eq_false_iff_not]
    rcases ltP_tri a b with k | rfl | k
    · exact .inl (fun k2 => ltP_irrefl _ (ltP_trans k k2))
    · exact .inl (ltP_irrefl _)
    · exact .inr (fun k2 => ltP_irrefl _ (ltP_trans k k2))
theorem asc_of (l : List S67) (h : l.Pairwise (fun x y => ¬ ltP y x)) (a b : Nat) (ha : a ≤ b) (hb : b < l.length) : l[a].f0 ≤ l[b].f0 := by
  rcases Nat.lt_or_ge a b with hlt | hge
  · have := (List.pairwise_iff_getElem.1 h) a b (by omega) hb hlt
    unfold ltP at this
    omega
  · obtain rfl : a = b := by omega
    exact Int.le_refl _
theorem ringAsc (l : List S67) (a b : Nat) (ha : a ≤ b) (hb : b < (ptSort l).length) : (ptSort l)[a].f0 ≤ (ptSort l)[b].f0 := asc_of _ (ptSort_sorted l) a b ha hb
theorem pick_mem (l : List S67) (x : Int) (h : l ≠ []) : ∃ p ∈ l, pick l x = p.f1 := by
  cases hr : rnd l (frm l x) with
  | nil =>
    have := rnd_length l (frm l x)
    rw [hr] at this
    exact absurd (List.eq_nil_of_length_eq_zero this.symm) h
  | cons p t =>
    have hp : p ∈ rnd l (frm l x) := by rw [hr]; simp
    have hl : 0 < l.length := List.length_pos_iff.2 h
    unfold rnd at hp
    obtain ⟨i, _, hi⟩ := List.mem_map.1 hp
    have hq : (frm l x + i) % l.length < l.length := Nat.mod_lt _ hl
    rw [List.getD_eq_getElem?_getD, List.getElem?_eq_getElem hq] at hi
    refine ⟨p, ?_, by rw [pick, hr]; rfl⟩
    rw [← hi]
    exact List.getElem_mem hq
def aE : S46 := ⟨⟨#[97]⟩, 3⟩
theorem aE_size (e : S46) (he : e ∈ [aE]) : e.f0.size ≤ 140737488354000 := by
  obtain rfl : e = aE := by simpa using he
  decide
theorem aE_w (e : S46) (he : e ∈ [aE]) : 1 ≤ e.f1 ∧ e.f1 ≤ 65535 := by
  obtain rfl : e = aE := by simpa using he
  decide
theorem chk_a : chk [aE] = 0 := by decide
theorem raw_a (kb : List Int) : (rawPts kb 4 [aE]).length = 4 ∧ ∀ p ∈ rawPts kb 4 [aE], p.f1 = ⟨#[97]⟩ := by
  constructor
  · rfl
  · intro p hp
    unfold rawPts at hp
    obtain ⟨e, he, hp⟩ := List.mem_flatMap.1 hp
    obtain rfl : e = aE := by simpa using he
    unfold ptsOf at hp
    obtain ⟨i, _, rfl⟩ := List.mem_map.1 hp
    rfl
theorem pick_a (kb : List Int) (x : Int) : pick (ptSort (rawPts kb 4 [aE])) x = ⟨#[97]⟩ := by
  obtain ⟨h1, h2⟩ := raw_a kb
  have hl : (ptSort (rawPts kb 4 [aE])).length = 4 := by rw [← h1]; exact List.length_mergeSort _
  obtain ⟨p, hp, e⟩ := pick_mem (ptSort (rawPts kb 4 [aE])) x (by intro h; rw [h] at hl; simp at hl)
  rw [e]
  exact h2 p ((ptSort_perm _).mem_iff.1 hp)
set_option maxHeartbeats 400000 in
theorem awake_calls (w0 : World) : Calls Tryd.prog 7 #[] w0 fun e w' => e = .returned (.bool true) ∧ Below w0.heap.size w0 w' := by
  go_enter Tryd.func7, Tryd.ntmps7
  go_wp2_with fail
  refine (keyOf_calls _ _).mono ?_
  rintro e w1 ⟨rfl, hb1⟩
  have HA : Hid (Kd.C k46 (w1.alloc (Obj.cells #[Value.string ⟨#[97]⟩, Value.int IntKind.i64 3] 58)) (some ⟨w1.heap.size, 0, none⟩) [aE].length [aE]) :=
    ents_reads (by show 1 ≤ _; omega) (fun k hk => by
      obtain rfl : k = 0 := by simpa using hk
      exact ⟨blk_cell (blk_new _ _) 0, blk_cell (blk_new _ _) 1⟩)
  have hB2 := below_alloc hb1 (Obj.cells #[Value.string ⟨#[97]⟩, Value.int IntKind.i64 3] 58)
  obtain ⟨kb, Hkb⟩ : ∃ kb : List Int, Hid (kb = keyOf ⟨#[107]⟩) := ⟨_, rfl⟩
  have hkb : kb.length = 16 := by rw [Hkb.out]; exact keyOf_length _
  rw [← Hkb.out]
  go_wp2_with fail
  generalize w1.alloc (Obj.cells #[Value.string ⟨#[97]⟩, Value.int IntKind.i64 3] 58) = w2 at HA hB2 ⊢
  refine (build_calls kb (some ⟨w1.heap.size, 0, none⟩) 1 [aE] 4 w2 hkb HA.out (Nat.le_refl _) (by show 1 ≤ 6; omega) aE_size (by omega) aE_w chk_a).mono ?_
  rintro e w3 ⟨⟨g, rfl, hg, hR⟩, hb3⟩
  have hB3 := hB2.trans (hb3.mono hB2.size)
  have hl4 : (ptSort (rawPts kb 4 [aE])).length = 4 := by rw [← (raw_a kb).1]; exact List.length_mergeSort _
  have hp := pick_a kb
  have hso := ringAsc (rawPts kb 4 [aE])
  obtain ⟨L, HL⟩ : ∃ L : List S67, Hid (L = ptSort (rawPts kb 4 [aE])) := ⟨_, rfl⟩
  simp only [← HL.out] at hR hl4 hp hso
  have HR := Lib.hid hR
  have HP := Lib.hid hp
  have HSO := Lib.hid hso
  have HL4 := Lib.hid hl4
  clear hR hp hso hl4 hb1 hB2 hb3 HA
  go_wp2_with fail
  refine (len_calls g L w3 HR.out).mono ?_
  rintro e w4 ⟨rfl, hb4⟩
  rw [HL4.out]
  have hB4 := hB3.trans (hb4.mono hB3.size)
  have HR4 := Lib.hid (HR.out.below hb4)
  clear hb4 HR hB3
  go_wp2_with fail
  refine (pick_calls g L 0 w4 HR4.out HSO.out).mono ?_
  rintro e w5 ⟨rfl, hb5⟩
  rw [HP.out]
  have hB5 := hB4.trans (hb5.mono hB4.size)
  have HR5 := Lib.hid (HR4.out.below hb5)
  clear hb5 HR4 hB4
  go_wp2_with fail
  refine (pick_calls g L 9223372036854775808 w5 HR5.out HSO.out).mono ?_
  rintro e w6 ⟨rfl, hb6⟩
  rw [HP.out]
  have hB6 := hB5.trans (hb6.mono hB5.size)
  clear hb6 HR5 hB5
  go_wp2_with fail
  go_ret
  exact ⟨rfl, hB6⟩
end Go.Proofs.YtbcmmmcbineipaaDoor
