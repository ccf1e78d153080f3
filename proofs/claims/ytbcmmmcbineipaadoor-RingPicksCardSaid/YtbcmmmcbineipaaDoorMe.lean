/- Entries, copied. The fixed fact. The plain law: the first few; when a ring may be made. The plain law: when a ring may be made; its points do not hang on the entries' order. -/
import Derived.Test.YtbcmmmcbineipaaDoorMd
import Derived.Test.YtbcmmmcbineipaaDoorMc
import Derived.Test.YtbcmmmcbineipaaDoorPRx1
set_option linter.unusedVariables false
set_option linter.unusedSimpArgs false
namespace Go.Proofs.YtbcmmmcbineipaaDoor
open Go.RowKit Go.Proofs.YtbcmmmcbineipaaDoorW.PrintWords Go.Proofs.YtbcmmmcbineipaaDoorW.PrintLast Go.Proofs.YtbcmmmcbineipaaDoorW.PrintMore
open Go.Proofs.YtbcmmmcbineipaaDoor.PR
def encE (e : S46) : List Value := [.string e.f0, .int .i64 e.f1]
def flatE (l : List S46) : List Value := l.flatMap encE
theorem flatE_append (a b : List S46) : flatE (a ++ b) = flatE a ++ flatE b := List.flatMap_append
theorem flatE_get (l : List S46) (k : Nat) (hk : k < l.length) : (flatE l)[k * 2]? = some (.string l[k].f0) ∧ (flatE l)[k * 2 + 1]? = some (.int .i64 l[k].f1) := by
  induction l generalizing k with
  | nil => simp at hk
  | cons p l ih =>
    cases k with
    | zero => exact ⟨rfl, rfl⟩
    | succ k =>
      have h := ih k (by simpa using hk)
      have e1 : (k + 1) * 2 = k * 2 + 2 := by omega
      rw [e1]
      exact h
theorem ents_reads {w : World} {g : Nat} {l : List S46} (hl : l.length ≤ 9223372036854775807) (hc : ∀ (k : Nat) (hk : k < l.length), w.cell? ⟨g, k * 2, none⟩ = some (.string l[k].f0) ∧ w.cell? ⟨g, k * 2 + 1, none⟩ = some (.int .i64 l[k].f1)) :
    Kd.C k46 w (some ⟨g, 0, none⟩) l.length l := by
  refine ⟨rfl, hl, fun hn => ⟨_, rfl, fun j p hj => ?_⟩⟩
  obtain ⟨hj1, rfl⟩ := List.getElem?_eq_some_iff.1 hj
  obtain ⟨h0, h1⟩ := hc j hj1
  refine ⟨[.string l[j].f0, .int .i64 l[j].f1], rfl, ⟨[.string l[j].f0], [.int .i64 l[j].f1], rfl, rfl, rfl⟩, fun i u hu => ?_⟩
  rw [show k46.sz = 2 from rfl, add_at, Nat.zero_add]
  match i, hu with
  | 0, hu => rw [Nat.add_zero, h0]; exact hu
  | 1, hu => rw [h1]; exact hu
theorem own_ents {w : World} {base t n : Nat} {v : Value} {l : List S46} (h : w.ownsRow base t 2 v n (flatE l)) (hn : n = l.length) : ∃ A c, v = .slice A l.length c ∧ l.length ≤ c ∧ Kd.C k46 w A l.length l := by
  subst hn
  rcases h.2 with ⟨rfl, h0⟩ | ⟨g, cap, cur, rfl, hbg, hg, hnc, hcm, hcs, htake⟩
  · obtain rfl : l = [] := List.eq_nil_of_length_eq_zero h0
    exact ⟨none, 0, rfl, Nat.le_refl _, ⟨rfl, by show 0 ≤ _; omega, fun h => absurd h (by simp)⟩⟩
  · have hcell : ∀ j, j < l.length * 2 → w.cell? ⟨g, j, none⟩ = (flatE l)[j]? := fun j hj => by
      rw [cell_of_row w g j cur t (0, 0) hg, ← htake, List.getElem?_take, if_pos hj, Array.getElem?_toList]
    refine ⟨_, cap, rfl, hnc, ents_reads (by unfold maxLen at hcm; omega) (fun k hk => ?_)⟩
    rw [hcell _ (by omega), hcell _ (by omega)]
    exact flatE_get l k hk
theorem info58 : (Tryd.prog.info? 58).map (fun i => (i.zero, i.size, i.bytes)) = some (some (.agg #[.string ⟨#[]⟩, .int .i64 0]), 2, 24) := by kernel_rfl
theorem info46 : (Tryd.prog.info? 46).map (fun i => (i.zero, i.size, i.bytes)) = some (some (.agg #[.string ⟨#[]⟩, .int .i64 0]), 2, 24) := by kernel_rfl

set_option maxHeartbeats 400000 in
set_option maxRecDepth 100000 in
theorem own_calls (A : Option Addr) (c : Nat) (l : List S46) (w0 : World) (hr : Kd.C k46 w0 A l.length l) (hc : l.length ≤ c) (hl : l.length ≤ 1000000) :
    Calls Tryd.prog 11 #[.slice A l.length c] w0 fun e w' => (∃ A' c', e = .returned (.slice A' l.length c') ∧ l.length ≤ c' ∧ Kd.C k46 w' A' l.length l) ∧ Below w0.heap.size w0 w' := by
  have HR := Lib.hid hr
  clear hr
  obtain ⟨i0, hi0, hz0, hz1, hz2⟩ := info_parts info58
  go_enter Tryd.func11, Tryd.ntmps11
  go_wp2_with fail
  go_loopw [3, 8] (fun v i wr => ∃ k : Nat, k ≤ l.length ∧ i = .int .i64 k ∧ Hid (wr.ownsRow w0.heap.size 58 2 v k (flatE (l.take k))) ∧ Hid (Below w0.heap.size w0 wr)) (fun _ i _ => l.length - (intOf i).toNat)
  case atStart => exact ⟨0, Nat.zero_le _, rfl, World.ownsRow_nil _ _ _ _, Below.refl _ _⟩
  case round =>
    obtain ⟨k, hk, rfl, HO, HB⟩ := hrel
    by_cases hlt : k < l.length
    · obtain ⟨ad, rfl, hc0, hc1⟩ := e46_at (Kd.C_below HR.out HB.out) k hlt
      obtain ⟨x, Hx⟩ : ∃ x : S46, Hid (x = l[k]) := ⟨l[k], rfl⟩
      rw [← Hx.out] at hc0 hc1
      have hsz := HB.out.size
      have hn9 : k + 1 ≤ maxLen := by unfold maxLen; omega
      have hn10 : (k + 1) * 24 ≤ 140737488355328 := by omega
      have hfl : flatE (l.take k) ++ [Value.string x.f0, Value.int .i64 x.f1] = flatE (l.take (k + 1)) := by
        rw [List.take_succ_eq_append_getElem hlt, flatE_append, ← Hx.out]
        rfl
      have HFL := Lib.hid hfl
      clear hfl
      have hnb := blk_next wr (.cells #[Value.string x.f0, Value.int .i64 x.f1] 46) (.cells #[Value.string x.f0, Value.int .i64 x.f1] 58)
      have HNB := Lib.hid hnb
      clear hnb
      have hsz2 : w0.heap.size ≤ ((wr.alloc (.cells #[Value.string x.f0, Value.int .i64 x.f1] 46)).alloc (.cells #[Value.string x.f0, Value.int .i64 x.f1] 58)).heap.size := by simp; omega
      have HSZ := Lib.hid hsz2
      clear hsz2
      go_wp2_with (at_builtin; refine wpList_append_lies _ rfl (.tmp 12) (.tmp 14) 32 rfl w0.heap.size 58 i0 _ 2 24 Tryd.underlying32 hi0 hz0 hz1 hz2 rfl (by omega) u3 k (flatE (l.take k)) rfl ((HO.out.alloc _).alloc _) ⟨wr.heap.size + 1, 0, none⟩ 1 1 [.string x.f0, .int .i64 x.f1] rfl rfl (World.news_of_block (cs := #[.string x.f0, .int .i64 x.f1]) (t := 58) (fr := (0, 0)) HNB.out) (by simp [Value.oneCell']) (by omega) hn9 hn10 HSZ.out _ rfl ?_; intro gg cap w9 hown9 hgrow hat hlt9; have HO9 := Lib.hid hown9; have HB9 : Hid (Below w0.heap.size w0 w9) := ((HB.out.alloc hsz _).alloc (by simp; omega) _).grown hgrow HSZ.out (fun g hg => own_ge HO.out hg); clear hown9 hgrow)
      go_roundw
      case rel => exact ⟨k + 1, by omega, by go_num, (by rw [← HFL.out]; exact HO9.out), HB9⟩
      case measure => simp [intOf]; omega
    · obtain rfl : k = l.length := by omega
      rw [List.take_length] at HO
      obtain ⟨A', c', rfl, hc', hC'⟩ := own_ents HO.out rfl
      have HC := Lib.hid hC'
      clear hC'
      go_wp2_with fail
      go_ret
      exact ⟨⟨A', c', rfl, hc', HC.out⟩, HB.out⟩
end Go.Proofs.YtbcmmmcbineipaaDoor
set_option linter.unusedVariables false
set_option linter.unusedSimpArgs false
namespace Go.Proofs.YtbcmmmcbineipaaDoor
open Go.RowKit Go.Proofs.YtbcmmmcbineipaaDoorW.PrintWords Go.Proofs.YtbcmmmcbineipaaDoorW.PrintLast Go.Proofs.YtbcmmmcbineipaaDoorW.PrintMore
open Go.Proofs.YtbcmmmcbineipaaDoor.PR
theorem ptSort_perm (l : List S67) : (ptSort l).Perm l := List.mergeSort_perm l _
theorem ptSort_sorted (l : List S67) : (ptSort l).Pairwise (fun x y => ¬ ltP y x) := by
  have h := List.pairwise_mergeSort (le := fun x y => !(Go.Proofs.ltOf cmpP) y x) (fun a b c h1 h2 => ?_) (fun a b => ?_) l
  · refine List.Pairwise.imp (fun {a b} hab => ?_) h
    rw [ltOf_cmpP] at hab
    simpa using hab
  · simp only [ltOf_cmpP, Bool.not_eq_true', decide_eq_false_iff_not] at *
    intro h3
    rcases ltP_tri a b with k | rfl | k
    · exact h2 (ltP_trans h3 k)
    · exact h2 h3
    · exact h1 k
  · simp only [ltOf_cmpP, Bool.or_eq_true, Bool.not_eq_true', decide_eq_false_iff_not]
    rcases ltP_tri a b with k | rfl | k
    · exact .inl (fun k2 => ltP_irrefl _ (ltP_trans k k2))
    · exact .inl (ltP_irrefl _)
    · exact .inr (fun k2 => ltP_irrefl _ (ltP_trans k k2))
theorem asc_of (l : List S67) (h : l.Pairwise (fun x y => ¬ ltP y x)) (a b : Nat) (ha : a ≤ b) (hb : b < l.length) : l[a].f0 ≤ l[b].f0 := by
  rcases Nat.lt_or_ge a b with hlt | hge
  · have := (List.pairwise_iff_getElem.1 h) a b (by omega) hb hlt
    unfold ltP at this
    omega
  · obtain rfl : a = b := by omega
    exact Int.le_refl _
theorem ringAsc (l : List S67) (a b : Nat) (ha : a ≤ b) (hb : b < (ptSort l).length) : (ptSort l)[a].f0 ≤ (ptSort l)[b].f0 := asc_of _ (ptSort_sorted l) a b ha hb
theorem pick_mem (l : List S67) (x : Int) (h : l ≠ []) : ∃ p ∈ l, pick l x = p.f1 := by
  cases hr : rnd l (frm l x) with
  | nil =>
    have := rnd_length l (frm l x)
    rw [hr] at this
    exact absurd (List.eq_nil_of_length_eq_zero this.symm) h
  | cons p t =>
    have hp : p ∈ rnd l (frm l x) := by rw [hr]; simp
    have hl : 0 < l.length := List.length_pos_iff.2 h
    unfold rnd at hp
    obtain ⟨i, _, hi⟩ := List.mem_map.1 hp
    have hq : (frm l x + i) % l.length < l.length := Nat.mod_lt _ hl
    rw [List.getD_eq_getElem?_getD, List.getElem?_eq_getElem hq] at hi
    refine ⟨p, ?_, by rw [pick, hr]; rfl⟩
    rw [← hi]
    exact List.getElem_mem hq
def aE : S46 := ⟨⟨#[97]⟩, 3⟩
theorem aE_size (e : S46) (he : e ∈ [aE]) : e.f0.size ≤ 140737488354000 := by
  obtain rfl : e = aE := by simpa using he
  decide
theorem aE_w (e : S46) (he : e ∈ [aE]) : 1 ≤ e.f1 ∧ e.f1 ≤ 65535 := by
  obtain rfl : e = aE := by simpa using he
  decide
theorem chk_a : chk [aE] = 0 := by decide
theorem raw_a (kb : List Int) : (rawPts kb 4 [aE]).length = 4 ∧ ∀ p ∈ rawPts kb 4 [aE], p.f1 = ⟨#[97]⟩ := by
  constructor
  · rfl
  · intro p hp
    unfold rawPts at hp
    obtain ⟨e, he, hp⟩ := List.mem_flatMap.1 hp
    obtain rfl : e = aE := by simpa using he
    unfold ptsOf at hp
    obtain ⟨i, _, rfl⟩ := List.mem_map.1 hp
    rfl
theorem pick_a (kb : List Int) (x : Int) : pick (ptSort (rawPts kb 4 [aE])) x = ⟨#[97]⟩ := by
  obtain ⟨h1, h2⟩ := raw_a kb
  have hl : (ptSort (rawPts kb 4 [aE])).length = 4 := by rw [← h1]; exact List.length_mergeSort _
  obtain ⟨p, hp, e⟩ := pick_mem (ptSort (rawPts kb 4 [aE])) x (by intro h; rw [h] at hl; simp at hl)
  rw [e]
  exact h2 p ((ptSort_perm _).mem_iff.1 hp)
set_option maxHeartbeats 400000 in
theorem awake_calls (w0 : World) : Calls Tryd.prog 7 #[] w0 fun e w' => e = .returned (.bool true) ∧ Below w0.heap.size w0 w' := by
  go_enter Tryd.func7, Tryd.ntmps7
  go_wp2_with fail
  refine (keyOf_calls _ _).mono ?_
  rintro e w1 ⟨rfl, hb1⟩
  have HA : Hid (Kd.C k46 (w1.alloc (Obj.cells #[Value.string ⟨#[97]⟩, Value.int IntKind.i64 3] 58)) (some ⟨w1.heap.size, 0, none⟩) [aE].length [aE]) :=
    ents_reads (by show 1 ≤ _; omega) (fun k hk => by
      obtain rfl : k = 0 := by simpa using hk
      exact ⟨blk_cell (blk_new _ _) 0, blk_cell (blk_new _ _) 1⟩)
  have hB2 := below_alloc hb1 (Obj.cells #[Value.string ⟨#[97]⟩, Value.int IntKind.i64 3] 58)
  obtain ⟨kb, Hkb⟩ : ∃ kb : List Int, Hid (kb = keyOf ⟨#[107]⟩) := ⟨_, rfl⟩
  have hkb : kb.length = 16 := by rw [Hkb.out]; exact keyOf_length _
  rw [← Hkb.out]
  go_wp2_with fail
  generalize w1.alloc (Obj.cells #[Value.string ⟨#[97]⟩, Value.int IntKind.i64 3] 58) = w2 at HA hB2 ⊢
  refine (build_calls kb (some ⟨w1.heap.size, 0, none⟩) 1 [aE] 4 w2 hkb HA.out (Nat.le_refl _) (by show 1 ≤ 6; omega) aE_size (by omega) aE_w chk_a).mono ?_
  rintro e w3 ⟨⟨g, rfl, hg, hR⟩, hb3⟩
  have hB3 := hB2.trans (hb3.mono hB2.size)
  have hl4 : (ptSort (rawPts kb 4 [aE])).length = 4 := by rw [← (raw_a kb).1]; exact List.length_mergeSort _
  have hp := pick_a kb
  have hso := ringAsc (rawPts kb 4 [aE])
  obtain ⟨L, HL⟩ : ∃ L : List S67, Hid (L = ptSort (rawPts kb 4 [aE])) := ⟨_, rfl⟩
  simp only [← HL.out] at hR hl4 hp hso
  have HR := Lib.hid hR
  have HP := Lib.hid hp
  have HSO := Lib.hid hso
  have HL4 := Lib.hid hl4
  clear hR hp hso hl4 hb1 hB2 hb3 HA
  go_wp2_with fail
  refine (len_calls g L w3 HR.out).mono ?_
  rintro e w4 ⟨rfl, hb4⟩
  rw [HL4.out]
  have hB4 := hB3.trans (hb4.mono hB3.size)
  have HR4 := Lib.hid (HR.out.below hb4)
  clear hb4 HR hB3
  go_wp2_with fail
  refine (pick_calls g L 0 w4 HR4.out HSO.out).mono ?_
  rintro e w5 ⟨rfl, hb5⟩
  rw [HP.out]
  have hB5 := hB4.trans (hb5.mono hB4.size)
  have HR5 := Lib.hid (HR4.out.below hb5)
  clear hb5 HR4 hB4
  go_wp2_with fail
  refine (pick_calls g L 9223372036854775808 w5 HR5.out HSO.out).mono ?_
  rintro e w6 ⟨rfl, hb6⟩
  rw [HP.out]
  have hB6 := hB5.trans (hb6.mono hB5.size)
  clear hb6 HR5 hB5
  go_wp2_with fail
  go_ret
  exact ⟨rfl, hB6⟩
end Go.Proofs.YtbcmmmcbineipaaDoor
set_option linter.unusedVariables false
set_option linter.unusedSimpArgs false
namespace Go.Proofs.YtbcmmmcbineipaaDoor
open Go.RowKit Go.Proofs.YtbcmmmcbineipaaDoorW.PrintWords Go.Proofs.YtbcmmmcbineipaaDoorW.PrintLast Go.Proofs.YtbcmmmcbineipaaDoorW.PrintMore
open Go.Proofs.YtbcmmmcbineipaaDoor.PR
def cut12 (s : ByteArray) : ByteArray := if 12 < s.size then s.extract 0 12 else s
theorem cut12_some (s : ByteArray) : stewardlaw01_Cut.f s 12 = some (cut12 s) := by
  unfold stewardlaw01_Cut.f cut12
  by_cases h : 12 < s.size
  · rw [if_pos (by omega), if_pos (by omega), if_pos (by omega), if_pos h]; rfl
  · rw [if_neg (by omega), if_neg h]
theorem cut12_size (s : ByteArray) : (cut12 s).size ≤ 12 := by
  unfold cut12
  split
  · rw [ByteArray.size_extract]; omega
  · omega
def fewE (e : S46) : S46 := ⟨⟨#[110]⟩ ++ cut12 e.f0, e.f1⟩
def fewOf (l : List S46) (n : Nat) : List S46 := (l.take n).map fewE
theorem fewOf_length (l : List S46) (n : Nat) : (fewOf l n).length ≤ n := by simp [fewOf]; omega
theorem fewOf_size (l : List S46) (n : Nat) (e : S46) (h : e ∈ fewOf l n) : e.f0.size ≤ 13 := by
  obtain ⟨x, _, rfl⟩ := List.mem_map.1 h
  have := cut12_size x.f0
  show (⟨#[110]⟩ ++ cut12 x.f0 : ByteArray).size ≤ 13
  rw [ByteArray.size_append]
  show 1 + _ ≤ 13
  omega
theorem few_some (l : List S46) (n : Nat) (hn : n ≤ 1000) : ∀ (d i : Nat), i + d = min l.length n → stewardlaw18_Few.l0 (d + 1) l n (fewOf l i) i = some (fewOf l n) := by
  intro d
  induction d with
  | zero =>
    intro i hi
    have he : fewOf l i = fewOf l n := by
      unfold fewOf
      congr 1
      rcases Nat.le_total l.length n with h | h
      · rw [List.take_of_length_le (by omega), List.take_of_length_le (by omega)]
      · have : i = n := by omega
        rw [this]
    rw [stewardlaw18_Few.l0]
    by_cases h1 : (i : Int) < l.length
    · rw [if_pos h1, if_neg (by omega), he]
    · rw [if_neg h1, he]
  | succ d ih =>
    intro i hi
    have h1 : i < l.length := by omega
    have e1 : wrap64 ((i : Int) + 1) = ((i + 1 : Nat) : Int) := by unfold wrap64; omega
    have e2 : rd_T46 l (i : Int) = l[i] := by simp [rd_T46, List.getD_eq_getElem?_getD, List.getElem?_eq_getElem h1]
    have e3 : fewOf l i ++ [⟨⟨#[110]⟩ ++ cut12 l[i].f0, l[i].f1⟩] = fewOf l (i + 1) := by
      unfold fewOf
      rw [List.take_succ_eq_append_getElem h1, List.map_append]
      rfl
    have e4 := fewOf_length l i
    rw [stewardlaw18_Few.l0, if_pos (by omega), if_pos (by omega), if_pos (by omega), e2, cut12_some]
    have e5 := cut12_size l[i].f0
    simp only [Option.bind_some]
    rw [if_pos (by omega), if_pos (by omega), e1, e3]
    exact ih (i + 1) (by omega)
theorem few_f (l : List S46) (n : Nat) (hn : n ≤ 1000) : stewardlaw18_Few.f (min l.length n + 1) l n = some (fewOf l n) := few_some l n hn (min l.length n) 0 (by omega)
/-- A ring may be made. -/
def okW (e : S46) : Prop := 1 ≤ e.f1 ∧ e.f1 ≤ 65535
def good (l : List S46) : Prop := (l.map fun e => e.f0.toList).Nodup ∧ ∀ e ∈ l, okW e
def okAt (l : List S46) (m : Nat) : Prop := ∀ (hm : m < l.length), (∀ (j : Nat) (hj : j < m), (l[j]'(by omega)).f0.toList ≠ l[m].f0.toList) ∧ okW l[m]
theorem good_iff (l : List S46) : good l ↔ ∀ m, okAt l m := by
  unfold good okAt
  rw [List.nodup_iff_pairwise_ne, List.pairwise_iff_getElem]
  constructor
  · rintro ⟨h1, h2⟩ m hm
    refine ⟨fun j hj => ?_, h2 _ (List.getElem_mem hm)⟩
    have := h1 j m (by simp; omega) (by simp; omega) hj
    simpa using this
  · intro h
    refine ⟨fun i j hi hj hij => ?_, fun e he => ?_⟩
    · have := (h j (by simpa using hj)).1 i hij
      simpa using this
    · obtain ⟨m, hm, rfl⟩ := List.getElem_of_mem he
      exact (h m hm).2
theorem ref_l1 (l : List S46) (hl : l.length ≤ 1000) (i : Nat) (hi : i < l.length) (hP : ∃ k r, stewardref19_Check.l0 k l l l.length ((i + 1 : Nat) : Int) = some r ∧ (r = 0 ∨ r = 1) ∧ (r = 0 ↔ ∀ m, i + 1 ≤ m → okAt l m)) :
    ∀ (d j : Nat), j + d = i → ∃ k r, stewardref19_Check.l1 k l l l.length i (l.take i) i j l[i].f0 l[i].f1 = some r ∧ (r = 0 ∨ r = 1) ∧ (r = 0 ↔ (∀ (q : Nat) (hq : q < i), j ≤ q → (l[q]'(by omega)).f0.toList ≠ l[i].f0.toList) ∧ okW l[i] ∧ ∀ m, i + 1 ≤ m → okAt l m) := by
  intro d
  induction d with
  | zero =>
    intro j hj
    obtain ⟨k, r, h1, h2, h3⟩ := hP
    have e1 : wrap64 ((i : Int) + 1) = ((i + 1 : Nat) : Int) := by unfold wrap64; omega
    by_cases w1 : l[i].f1 < 1
    · exact ⟨k + 1, 1, by rw [stewardref19_Check.l1, if_neg (by omega), if_pos w1], .inr rfl, ⟨fun h => absurd h (by omega), fun h => absurd h.2.1.1 (by omega)⟩⟩
    · by_cases w2 : 65535 < l[i].f1
      · exact ⟨k + 1, 1, by rw [stewardref19_Check.l1, if_neg (by omega), if_neg w1, if_pos w2], .inr rfl, ⟨fun h => absurd h (by omega), fun h => absurd h.2.1.2 (by omega)⟩⟩
      · refine ⟨k + 1, r, by rw [stewardref19_Check.l1, if_neg (by omega), if_neg w1, if_neg (by omega), e1]; exact h1, h2, ?_⟩
        rw [h3]
        exact ⟨fun h => ⟨fun q hq hjq => absurd hq (by omega), ⟨by omega, by omega⟩, h⟩, fun h => h.2.2⟩
  | succ d ih =>
    intro j hj
    obtain ⟨k, r, h1, h2, h3⟩ := ih (j + 1) (by omega)
    have e1 : wrap64 ((j : Int) + 1) = ((j + 1 : Nat) : Int) := by unfold wrap64; omega
    have hjl : j < l.length := by omega
    have hlt : (l.take i).length = i := by simp; omega
    have e2 : rd_T46 (l.take i) (j : Int) = l[j] := by
      simp [rd_T46, List.getD_eq_getElem?_getD, List.getElem?_take, show j < i by omega, List.getElem?_eq_getElem hjl]
    by_cases hn : l[j].f0.toList = l[i].f0.toList
    · refine ⟨k + 1, 1, ?_, .inr rfl, ⟨fun h => absurd h (by omega), fun h => absurd hn (h.1 j (by omega) (Nat.le_refl _))⟩⟩
      rw [stewardref19_Check.l1, if_pos (by omega), if_pos (by omega), hlt, if_pos (by omega), e2, if_pos hn]
    · refine ⟨k + 1, r, ?_, h2, ?_⟩
      · rw [stewardref19_Check.l1, if_pos (by omega), if_pos (by omega), hlt, if_pos (by omega), e2, if_neg hn, e1]
        exact h1
      · rw [h3]
        refine ⟨fun h => ⟨fun q hq hjq => ?_, h.2⟩, fun h => ⟨fun q hq hjq => h.1 q hq (by omega), h.2⟩⟩
        rcases Nat.lt_or_ge j q with hlt2 | hge
        · exact h.1 q hq hlt2
        · obtain rfl : q = j := by omega
          exact hn
theorem ref_l0 (l : List S46) (hl : l.length ≤ 1000) : ∀ (d i : Nat), i + d = l.length → ∃ k r, stewardref19_Check.l0 k l l l.length i = some r ∧ (r = 0 ∨ r = 1) ∧ (r = 0 ↔ ∀ m, i ≤ m → okAt l m) := by
  intro d
  induction d with
  | zero =>
    intro i hi
    exact ⟨1, 0, by rw [stewardref19_Check.l0, if_neg (by omega)], .inl rfl, ⟨fun _ m hm hml => absurd hml (by omega), fun _ => rfl⟩⟩
  | succ d ih =>
    intro i hi
    have hil : i < l.length := by omega
    obtain ⟨k, r, h1, h2, h3⟩ := ref_l1 l hl i hil (ih (i + 1) (by omega)) i 0 (by omega)
    have hlt : (l.take i).length = i := by simp; omega
    have e2 : rd_T46 l (i : Int) = l[i] := by simp [rd_T46, List.getD_eq_getElem?_getD, List.getElem?_eq_getElem hil]
    refine ⟨k + 1, r, ?_, h2, ?_⟩
    · rw [stewardref19_Check.l0, if_pos (by omega), if_pos (by omega), if_pos (by omega), if_pos (by omega), e2]
      simp only [Option.bind_some, Int.toNat_natCast, hlt]
      exact h1
    · rw [h3]
      constructor
      · rintro ⟨ha, hb, hc⟩ m hm
        rcases Nat.lt_or_ge i m with hlt2 | hge
        · exact hc m hlt2
        · obtain rfl : m = i := by omega
          exact fun _ => ⟨fun j hj => ha j hj (Nat.zero_le _), hb⟩
      · intro h
        have := h i (Nat.le_refl _) hil
        exact ⟨fun q hq _ => this.1 q hq, this.2, fun m hm => h m (by omega)⟩
theorem ref_check (l : List S46) (hl : l.length ≤ 1000) : ∃ k r, stewardref19_Check.f k l = some r ∧ (r = 0 ∨ r = 1) ∧ (r = 0 ↔ good l) := by
  obtain ⟨k, r, h1, h2, h3⟩ := ref_l0 l hl l.length 0 (by omega)
  refine ⟨k, r, by rw [stewardref19_Check.f, if_neg (by omega)]; exact h1, h2, ?_⟩
  rw [h3, good_iff]
  exact ⟨fun h m => h m (Nat.zero_le _), fun h m _ => h m⟩
end Go.Proofs.YtbcmmmcbineipaaDoor
set_option linter.unusedVariables false
set_option linter.unusedSimpArgs false
namespace Go.Proofs.YtbcmmmcbineipaaDoor
open Go.RowKit Go.Maps Go.Proofs.YtbcmmmcbineipaaDoorW.PrintWords Go.Proofs.YtbcmmmcbineipaaDoorW.PrintLast Go.Proofs.YtbcmmmcbineipaaDoorW.PrintMore
open Go.Proofs.YtbcmmmcbineipaaDoor.PR
theorem any_same (A : List (List UInt8)) (k : List UInt8) : (A.map Lit.string).any (fun y => y.sameKey (.string k)) = decide (k ∈ A) := by
  induction A with
  | nil => simp
  | cons a A ih =>
    rw [List.map_cons, List.any_cons, ih]
    simp only [Lit.sameKey, List.mem_cons]
    by_cases h : a = k
    · simp [h]
    · have h' : ¬ k = a := fun e => h e.symm
      simp [h, h']
theorem fold_add (ks : List (List UInt8)) : ∀ A : List (List UInt8), ((ks.map Lit.string).foldl addKey (A.map Lit.string)).length ≤ A.length + ks.length ∧ (((ks.map Lit.string).foldl addKey (A.map Lit.string)).length = A.length + ks.length ↔ ks.Nodup ∧ ∀ k ∈ ks, k ∉ A) := by
  induction ks with
  | nil => intro A; simp
  | cons k ks ih =>
    intro A
    rw [List.map_cons, List.foldl_cons, addKey, any_same]
    by_cases h : k ∈ A
    · rw [if_pos (by simpa using h)]
      obtain ⟨h1, _⟩ := ih A
      refine ⟨by simp only [List.length_cons]; omega, ⟨fun e => ?_, fun e => absurd h (e.2 k (by simp))⟩⟩
      simp only [List.length_cons] at e
      omega
    · rw [if_neg (by simpa using h)]
      have e1 : A.map Lit.string ++ [Lit.string k] = (A ++ [k]).map Lit.string := by simp
      rw [e1]
      obtain ⟨h1, h2⟩ := ih (A ++ [k])
      have e2 : (A ++ [k]).length + ks.length = A.length + (k :: ks).length := by simp; omega
      rw [e2] at h1 h2
      refine ⟨h1, h2.trans ?_⟩
      rw [List.nodup_cons]
      constructor
      · rintro ⟨ha, hb⟩
        refine ⟨⟨fun hk => hb k hk (by simp), ha⟩, fun q hq => ?_⟩
        rcases List.mem_cons.1 hq with rfl | hq
        · exact h
        · exact fun hA => hb q hq (by simp [hA])
      · rintro ⟨⟨ha, hb⟩, hc⟩
        refine ⟨hb, fun q hq hA => ?_⟩
        rcases List.mem_append.1 hA with hA | hA
        · exact hc q (by simp [hq]) hA
        · obtain rfl : q = k := by simpa using hA
          exact ha hq
theorem keys_eq (l : List S46) : keysOf l = (l.map fun e => e.f0.toList).map Lit.string := by
  unfold keysOf keyL
  rw [List.map_map]
  apply List.map_congr_left
  intro e _
  show Lit.string e.f0.data.toList = Lit.string e.f0.toList
  rw [Lib.toList_data]
theorem size_names (l : List S46) (hs : ∀ e ∈ l, e.f0.size ≤ maxLen) : Maps.size (setN l) ≤ l.length ∧ (Maps.size (setN l) = l.length ↔ (l.map fun e => e.f0.toList).Nodup) := by
  have hk : ∀ x ∈ keysOf l, WideAt.IsKeyLit x := by
    intro x hx
    obtain ⟨e, he, rfl⟩ := List.mem_map.1 hx
    exact trivial
  have h := fold_add (l.map fun e => e.f0.toList) []
  unfold setN
  rw [size_setOf _ _ hk, keys_eq]
  simp only [List.map_nil, List.length_nil, Nat.zero_add, List.length_map] at h
  refine ⟨h.1, h.2.trans ?_⟩
  simp
theorem bad_iff (l : List S46) : l.any badW = false ↔ ∀ e ∈ l, okW e := by
  rw [List.any_eq_false]
  constructor
  · intro h e he
    have := h e he
    simp only [badW, Bool.or_eq_true, decide_eq_true_eq] at this
    unfold okW
    omega
  · intro h e he
    have := h e he
    simp only [badW, Bool.or_eq_true, decide_eq_true_eq]
    unfold okW at this
    omega
theorem chk_01 (l : List S46) : chk l = 0 ∨ chk l = 1 := by
  unfold chk
  split
  · exact .inr rfl
  · split
    · exact .inr rfl
    · split
      · exact .inr rfl
      · exact .inl rfl
theorem chk_good (l : List S46) (hl : l.length ≤ 1000) (hs : ∀ e ∈ l, e.f0.size ≤ maxLen) : chk l = 0 ↔ good l := by
  obtain ⟨h1, h2⟩ := size_names l hs
  unfold chk good
  cases hb : l.any badW with
  | true =>
    rw [if_pos rfl]
    refine ⟨fun h => absurd h (by omega), fun h => ?_⟩
    have := (bad_iff l).2 h.2
    rw [this] at hb
    cases hb
  | false =>
    rw [if_neg (by decide), if_neg (by omega)]
    have hw := (bad_iff l).1 hb
    by_cases hlt : Maps.size (setN l) < l.length
    · rw [if_pos hlt]
      refine ⟨fun h => absurd h (by omega), fun h => ?_⟩
      have := h2.2 h.1
      omega
    · rw [if_neg hlt]
      exact ⟨fun _ => ⟨h2.1 (by omega), hw⟩, fun _ => rfl⟩
theorem good_perm {a b : List S46} (h : a.Perm b) : good a ↔ good b := by
  unfold good
  rw [(h.map _).nodup_iff]
  exact ⟨fun k => ⟨k.1, fun e he => k.2 e (h.mem_iff.2 he)⟩, fun k => ⟨k.1, fun e he => k.2 e (h.mem_iff.1 he)⟩⟩
theorem greatest_perm {a b : List S46} (h : a.Perm b) : greatest a = greatest b := by
  unfold greatest
  exact h.foldl_eq' (fun x _ y _ z => by show max (max z x.f1) y.f1 = max (max z y.f1) x.f1; omega) 1
theorem raw_perm (kb : List Int) (per : Int) {a b : List S46} (h : a.Perm b) : (rawPts kb per a).Perm (rawPts kb per b) := by
  unfold rawPts
  rw [greatest_perm h]
  exact h.flatMap_right _
theorem sorted_eq {a b : List S67} (h : a.Perm b) (ha : a.Pairwise (fun x y => ¬ ltP y x)) (hb : b.Pairwise (fun x y => ¬ ltP y x)) : a = b :=
  List.Perm.eq_of_pairwise (fun x y _ _ h1 h2 => by
    rcases ltP_tri x y with k | k | k
    · exact absurd k h2
    · exact k
    · exact absurd k h1) ha hb h
theorem ring_perm (kb : List Int) (per : Int) {a b : List S46} (h : a.Perm b) : ptSort (rawPts kb per a) = ptSort (rawPts kb per b) :=
  sorted_eq ((ptSort_perm _).trans ((raw_perm kb per h).trans (ptSort_perm _).symm)) (ptSort_sorted _) (ptSort_sorted _)
end Go.Proofs.YtbcmmmcbineipaaDoor
