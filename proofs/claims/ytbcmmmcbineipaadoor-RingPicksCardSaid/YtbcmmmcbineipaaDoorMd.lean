/- How a ring is built: the words. A region that draws its order: loads taken first under a condition on the world, up to a last operation that waits for all others. The points of a row, sorted. How a ring is built: the walk to the sort. A ring that may not be made; how many points; the i-th one. -/
import Derived.Test.YtbcmmmcbineipaaDoorMb
import Derived.Test.YtbcmmmcbineipaaDoorKeyOf
import Derived.Test.YtbcmmmcbineipaaDoorMa
import Derived.Deep.RegionHeld3
import Derived.Deep.AppendLies
import Derived.OrdersHeld
import Derived.StillTail
set_option linter.unusedVariables false
set_option linter.unusedSimpArgs false
namespace Go.Proofs.YtbcmmmcbineipaaDoor
open Go.RowKit Go.Proofs.YtbcmmmcbineipaaDoorW.PrintWords Go.Proofs.YtbcmmmcbineipaaDoorW.PrintLast Go.Proofs.YtbcmmmcbineipaaDoorW.PrintMore
open Go.Proofs.YtbcmmmcbineipaaDoor.PR
def greatest (l : List S46) : Int := l.foldl (fun g e => max g e.f1) 1
def perOf (per : Int) : Int := max 1 (min per 256)
def cntOf (p g : Int) (e : S46) : Nat := (max 1 ((p * e.f1) / g)).toNat
def digs (i : Nat) : ByteArray := ⟨(Lib.decDigits i).toArray⟩
def ptOf (kb : List Int) (e : S46) (i : Nat) : S67 := ⟨ssum kb (lbytes [e.f0, ⟨#[35]⟩, digs i]), e.f0⟩
def ptsOf (kb : List Int) (p g : Int) (e : S46) : List S67 := (List.range (cntOf p g e)).map (ptOf kb e)
def rawPts (kb : List Int) (per : Int) (l : List S46) : List S67 := l.flatMap (ptsOf kb (perOf per) (greatest l))
def flat (l : List S67) : List Value := l.flatMap encPt
theorem flat_append (a b : List S67) : flat (a ++ b) = flat a ++ flat b := List.flatMap_append
theorem flat_length (l : List S67) : (flat l).length = l.length * 2 := by
  induction l with
  | nil => rfl
  | cons p l ih =>
    show (encPt p ++ flat l).length = _
    rw [List.length_append, ih]
    simp [encPt]
    omega
theorem flat_get (l : List S67) (k : Nat) (hk : k < l.length) : (flat l)[k * 2]? = some (.int .u64 l[k].f0) ∧ (flat l)[k * 2 + 1]? = some (.string l[k].f1) := by
  induction l generalizing k with
  | nil => simp at hk
  | cons p l ih =>
    cases k with
    | zero => exact ⟨rfl, rfl⟩
    | succ k =>
      have h := ih k (by simpa using hk)
      have e1 : (k + 1) * 2 = k * 2 + 2 := by omega
      rw [e1]
      exact h
theorem greatest_pos (l : List S46) : ∀ g : Int, 1 ≤ g → 1 ≤ l.foldl (fun g e => max g e.f1) g := by
  induction l with
  | nil => intro g h; exact h
  | cons e l ih => intro g h; exact ih _ (Int.le_trans h (Int.le_max_left _ _))
theorem greatest_ge (l : List S46) : ∀ g : Int, g ≤ l.foldl (fun g e => max g e.f1) g ∧ ∀ e ∈ l, e.f1 ≤ l.foldl (fun g e => max g e.f1) g := by
  induction l with
  | nil => intro g; exact ⟨Int.le_refl _, fun e h => absurd h (by simp)⟩
  | cons e l ih =>
    intro g
    obtain ⟨h1, h2⟩ := ih (max g e.f1)
    refine ⟨Int.le_trans (Int.le_max_left _ _) h1, fun x hx => ?_⟩
    rcases List.mem_cons.1 hx with rfl | hx
    · exact Int.le_trans (Int.le_max_right _ _) h1
    · exact h2 x hx
theorem greatest_succ (l : List S46) (k : Nat) (h : k < l.length) : greatest (l.take (k + 1)) = max (greatest (l.take k)) l[k].f1 := by
  unfold greatest
  rw [List.take_succ_eq_append_getElem h, List.foldl_append]
  rfl
theorem cnt_le (p g : Int) (e : S46) (hp : 1 ≤ p) (h1 : 1 ≤ e.f1) (hg : e.f1 ≤ g) : (cntOf p g e : Int) ≤ p ∧ 1 ≤ cntOf p g e := by
  have h : (p * e.f1) / g ≤ p := by
    have h2 : p * e.f1 ≤ p * g := Int.mul_le_mul_of_nonneg_left hg (by omega)
    have h3 : (p * e.f1) / g ≤ (p * g) / g := Int.ediv_le_ediv (by omega) h2
    rw [Int.mul_ediv_cancel _ (by omega)] at h3
    exact h3
  unfold cntOf
  omega
theorem lbytes3 (a b c : ByteArray) : (lbytes [a, b, c]).length = a.size + b.size + c.size := by
  show ([bytesOf a, bytesOf b, bytesOf c].flatten).length = _
  simp only [List.flatten_cons, List.flatten_nil, List.append_nil, List.length_append, bytesOf_length]
  omega
theorem decDigits_small (i : Nat) (h : i < 100) : (Lib.decDigits i).length ≤ 2 := by
  have : ∀ i : Fin 100, (Lib.decDigits i.1).length ≤ 2 := by decide +kernel
  exact this ⟨i, h⟩
theorem sum3_calls (kb : List Int) (hk : kb.length = 16) (a b c : ByteArray) (hs : a.size + b.size + c.size ≤ 140737488355000) (B t : Nat) (w : World) (h : w.heap[B]? = some (.cells #[.string a, .string b, .string c] t (0, 0))) :
    Calls Tryd.prog 23 #[.agg (nums .u8 kb).toArray, .slice (some ⟨B, 0, none⟩) 3 3] w fun e w' => e = .returned (.int .u64 (ssum kb (lbytes [a, b, c]))) ∧ Below w.heap.size w w' := by
  have hr : Kd.C Kd.string w (some ⟨B, 0, none⟩) [a, b, c].length [a, b, c] := by
    refine Kd.C_of_reads (d := ByteArray.empty) ⟨rfl, (by show 3 ≤ _; omega), fun _ => ⟨_, rfl, fun j hj => ?_⟩⟩
    rw [add_at, Nat.zero_add, blk_cell h]
    match j, hj with
    | 0, _ => rfl
    | 1, _ => rfl
    | 2, _ => rfl
  exact ssum_calls kb (some ⟨B, 0, none⟩) 3 [a, b, c] w hk hr (Nat.le_refl _) (by rw [lbytes3]; exact hs) (by show 3 ≤ _; omega)
end Go.Proofs.YtbcmmmcbineipaaDoor
set_option linter.unusedVariables false
set_option linter.unusedSimpArgs false
namespace Go.Proofs.YtbcmmmcbineipaaDoor
variable {P : Program} {ops : Array Oper} {Q : Exit → Act → World → Prop} {md : Region.Mode} {S : World → Prop}
def wpHl (P : Program) (md : Region.Mode) (ops : Array Oper) (Q : Exit → Act → World → Prop) (S : World → Prop) (n : Nat) (L : Array Bool → Act → World → Prop) : Nat → Array Bool → Act → World → Prop
  | 0, listed, a, w => L listed a w
  | f + 1, listed, a, w =>
    Region.ready md ops listed ≠ [] ∧ ∀ i ∈ Region.ready md ops listed, i < n ∧ wpOp P ops Q i (fun a' w' => S w' ∧ wpHl P md ops Q S n L f (listed.setIfInBounds i true) a' w') a w
theorem wpAny_of_hl {n g : Nat} {L : Array Bool → Act → World → Prop} (hL : ∀ listed a w, L listed a w → wpAny P md ops Q g listed a w) :
    ∀ (f : Nat) (listed : Array Bool) (a : Act) (w : World), wpHl P md ops Q S n L f listed a w → wpAny P md ops Q (f + g) listed a w
  | 0, listed, a, w, h => by rw [Nat.zero_add]; exact hL _ _ _ h
  | f + 1, listed, a, w, h => by
    rw [show f + 1 + g = (f + g) + 1 by omega]
    exact ⟨fun h0 => absurd h0 h.1, fun i hi => wpOp_mono (fun a' w' h' => wpAny_of_hl hL f _ a' w' h'.2) (h.2 i hi).2⟩
/-- Where a head is still to come up, whatever comes up keeps the head's word. -/
theorem wpHl_first {n i : Nat} {oi : Oper} {v : Value} {L : Array Bool → Act → World → Prop} (hi : ops[i]? = some oi) (hsel : ∀ (j : Nat) (o : Oper) cs b, ops[j]? = some o → o.op ≠ .select cs b)
    (hs : Region.sinkB md ops n = true) (hc : Region.chainB md ops n = true) (hn : n < ops.size) (hin : i < n)
    (hdone : ∀ listed a w, L listed a w → ∀ j ∈ Region.ready md ops listed, n ≤ j)
    (hQ : ∀ c a w, Q (.panic c) (a.put oi.dst v) w → Q (.panic c) a w) :
    ∀ (fuel : Nat) (listed : Array Bool) (a : Act) (w : World), HeadInv md ops n listed →
      (∀ j oj, ops[j]? = some oj → j ≠ i → listed.getD j true = false → (∀ e ∈ oj.after, Region.binds md e = true → e.on ≠ i) → oi.apart ops oj = true) →
      i ∈ Region.ready md ops listed → YieldsIf P ops S oi v a → S w →
      wpHl P md ops Q S n L fuel (listed.setIfInBounds i true) (a.put oi.dst v) w → wpHl P md ops Q S n L (fuel + 1) listed a w := by
  intro fuel
  induction fuel with
  | zero =>
    intro listed a w inv _ hr hy hS H
    have hun := (mem_ready.1 hr).1
    refine ⟨fun h => (by rw [h] at hr; cases hr), fun j hj => ?_⟩
    have hjn : j < n := by
      rcases Nat.lt_or_ge j n with h | h
      · exact h
      · exact absurd hj (tail_waits hs hc hn inv _ i rfl hin hun j h)
    refine ⟨hjn, ?_⟩
    by_cases hji : j = i
    · subst hji; exact hy.wpOp hi hS ⟨hS, H⟩
    · have := hdone _ _ _ H j (ready_mono hj hji)
      omega
  | succ fuel ih =>
    intro listed a w inv hfree hr hy hS H
    have hun := (mem_ready.1 hr).1
    refine ⟨fun h => (by rw [h] at hr; cases hr), fun j hj => ?_⟩
    have hjn : j < n := by
      rcases Nat.lt_or_ge j n with h | h
      · exact h
      · exact absurd hj (tail_waits hs hc hn inv _ i rfl hin hun j h)
    refine ⟨hjn, ?_⟩
    by_cases hji : j = i
    · subst hji; exact hy.wpOp hi hS ⟨hS, H⟩
    · have h1 := (H.2 j (ready_mono hj hji)).2
      obtain ⟨hjun, oj, hoj, hall⟩ := mem_ready.1 hj
      have hnot : ∀ e ∈ oj.after, Region.binds md e = true → e.on ≠ i := fun e he hb heq => by
        have h1 := hall e he hb
        rw [heq, getD_both hun] at h1
        cases h1
      have h2 := wpOp_putIf hoj (hfree j oj hoj hji hjun hnot) (fun cs b => hsel i oi cs b hi) (fun cs b => hsel j oj cs b hoj) hQ hy h1
      have hfree' : ∀ k ok, ops[k]? = some ok → k ≠ i → (listed.setIfInBounds j true).getD k true = false →
          (∀ e ∈ ok.after, Region.binds md e = true → e.on ≠ i) → oi.apart ops ok = true := fun k ok hk hki hun hno => by
        refine hfree k ok hk hki ?_ hno
        by_cases hjk : j = k
        · subst hjk; exact hjun
        · rw [getD_set_ne true hjk] at hun; exact hun
      refine wpOp_mono (fun a' w' h3 => ⟨h3.2.1, ih (listed.setIfInBounds j true) a' w' (inv.set hj hjn) hfree' (ready_mono hr (Ne.symm hji)) h3.1 h3.2.1 ?_⟩) h2
      rw [Array.setIfInBounds_comm _ _ hji]
      exact h3.2.2
/-- A head of operations and one last operation, which waits for all: the state of the walk. -/
structure HdSt (P : Program) (ops : Array Oper) (Q : Exit → Act → World → Prop) (S : World → Prop) (n f : Nat) (listed : Array Bool) (a : Act) (w : World) : Prop where
  go : HeadInv .any ops n listed → wpHl P .any ops Q S n (fun l' a' w' => Region.seqB .any ops 1 n l' = true ∧ wpList P ops Q (ops.toList.drop n) a' w') f listed a w
def hdB (ops : Array Oper) (n : Nat) : Bool := Region.noSelect ops && decide (n + 1 = ops.size) && Region.sinkB .any ops n && Region.chainB .any ops n
theorem hdB_spec {n : Nat} (h : hdB ops n = true) : Region.noSelect ops = true ∧ n + 1 = ops.size ∧ Region.sinkB .any ops n = true ∧ Region.chainB .any ops n = true := by
  simp only [hdB, Bool.and_eq_true, decide_eq_true_eq] at h
  exact ⟨h.1.1.1, h.1.1.2, h.1.2, h.2⟩
theorem HdSt.take {n f i : Nat} {oi : Oper} {v : Value} {listed : Array Bool} {a : Act} {w : World} (hB : hdB ops n = true) (hi : ops[i]? = some oi) (hin : i < n)
    (hf : Region.free .any ops listed i = true) (hr : (Region.ready .any ops listed).contains i = true)
    (hQ : ∀ c a w, Q (.panic c) (a.put oi.dst v) w → Q (.panic c) a w) (hy : YieldsIf P ops S oi v a) (hS : S w)
    (h : HdSt P ops Q S n f (listed.setIfInBounds i true) (a.put oi.dst v) w) : HdSt P ops Q S n (f + 1) listed a w := by
  obtain ⟨h1, h2, h3, h4⟩ := hdB_spec hB
  have hr' : i ∈ Region.ready .any ops listed := by simpa using hr
  exact ⟨fun inv => wpHl_first hi (Region.noSelect_spec h1) h3 h4 (by omega) hin (fun l' a' w' hL => seqB_ready hL.1) hQ f listed a w inv (Region.free_spec hi hf) hr' hy hS (h.go (inv.set hr' hin))⟩
/-- .. its temporary named. -/
theorem HdSt.takeAt {n f i : Nat} (d : Tmp) {oi : Oper} {v : Value} {listed : Array Bool} {a : Act} {w : World} (hB : hdB ops n = true) (hi : ops[i]? = some oi) (hd : oi.dst = some d) (hin : i < n)
    (hf : Region.free .any ops listed i = true) (hr : (Region.ready .any ops listed).contains i = true)
    (hQ : ∀ c a w, Q (.panic c) (a.put oi.dst v) w → Q (.panic c) a w) (hy : YieldsIf P ops S oi v a) (hS : S w)
    (h : HdSt P ops Q S n f (listed.setIfInBounds i true) (a.put (some d) v) w) : HdSt P ops Q S n (f + 1) listed a w :=
  HdSt.take hB hi hin hf hr hQ hy hS (by rw [hd]; exact h)
/-- One operation alone may come up. -/
theorem HdSt.one {n f i : Nat} {o : Oper} {listed : Array Bool} {a : Act} {w : World} (hr : Region.ready .any ops listed = [i]) (hin : i < n) (ho : ops[i]? = some o)
    (h : ∀ K' : Act → World → Prop, Shut (∀ a w, S w → (S w → HdSt P ops Q S n f (listed.setIfInBounds i true) a w) → K' a w) → if Region.wanted o (yielded ops a.tmps) = true then Oper.wp P o a w K' Q else K' (a.put o.dst undef) w) :
    HdSt P ops Q S n (f + 1) listed a w := by
  have hi : i ∈ Region.ready .any ops listed := by rw [hr]; simp
  refine ⟨fun inv => ⟨by rw [hr]; simp, fun j hj => ?_⟩⟩
  obtain rfl : j = i := by rw [hr] at hj; simpa using hj
  exact ⟨hin, wpOp_step ho (fun K' hK => h K' (fun a w hS hW => hK a w ⟨hS, (hW hS).go (inv.set hi hin)⟩))⟩
theorem HdSt.done {n : Nat} {listed : Array Bool} {a : Act} {w : World} (hq : Region.seqB .any ops 1 n listed = true) (h : wpList P ops Q (ops.toList.drop n) a w) : HdSt P ops Q S n 0 listed a w :=
  ⟨fun _ => ⟨hq, h⟩⟩
theorem hd_region {id n : Nat} {a : Act} {w : World} (hm : P.follows .mixedOrders = true) (hB : hdB ops n = true) (hS : S w.drew)
    (h : S w.drew → HdSt P ops Q S n n (Array.replicate ops.size false) a w.drew) : (Code.region id ops true).wp P Q a w := by
  obtain ⟨h1, h2, h3, h4⟩ := hdB_spec hB
  have inv0 : HeadInv .any ops n (Array.replicate ops.size false) :=
    ⟨by simp, fun j oj _ hl => (by rw [getD_replicate_false] at hl; cases hl), fun t _ ht => getD_in (by simpa using ht) (getD_replicate_false _ _)⟩
  refine wp_region_any hm ?_
  have hd1 : (ops.toList.drop n).length = 1 := by simp; omega
  have := wpAny_of_hl (Q := Q) (g := 1) (fun listed a' w' hL => by
    have := wpAny_of_seq (md := .any) (Q' := Q) (ops.toList.drop n) n listed a' w' (fun j => by simp [List.getElem?_drop]) (by rw [hd1]; exact hL.1) hL.2
    rwa [hd1] at this) _ _ _ _ ((h hS).go inv0)
  exact (congrArg (fun k => wpAny P .any ops Q k (Array.replicate ops.size false) a w.drew) h2).mp this
end Go.Proofs.YtbcmmmcbineipaaDoor
set_option linter.unusedVariables false
set_option linter.unusedSimpArgs false
namespace Go.Proofs.YtbcmmmcbineipaaDoor
open Go.RowKit Go.Shelf Go.Lib Go.Sort
open Go.Proofs.YtbcmmmcbineipaaDoorW.PrintWords Go.Proofs.YtbcmmmcbineipaaDoorW.PrintLast Go.Proofs.YtbcmmmcbineipaaDoorW.PrintMore
open Go.Proofs.YtbcmmmcbineipaaDoor.PR
theorem pts_reads {w : World} {g : Nat} {l : List S67} (hl : l.length ≤ 9223372036854775807) (hc : ∀ (k : Nat) (hk : k < l.length), w.cell? ⟨g, k * 2, none⟩ = some (.int .u64 l[k].f0) ∧ w.cell? ⟨g, k * 2 + 1, none⟩ = some (.string l[k].f1)) :
    Kd.C k67 w (some ⟨g, 0, none⟩) l.length l := by
  refine ⟨rfl, hl, fun hn => ⟨_, rfl, fun j p hj => ?_⟩⟩
  obtain ⟨hj1, rfl⟩ := List.getElem?_eq_some_iff.1 hj
  obtain ⟨h0, h1⟩ := hc j hj1
  refine ⟨[.int .u64 l[j].f0, .string l[j].f1], rfl, ⟨[.int .u64 l[j].f0], [.string l[j].f1], rfl, rfl, rfl⟩, fun i u hu => ?_⟩
  rw [show k67.sz = 2 from rfl, add_at, Nat.zero_add]
  match i, hu with
  | 0, hu => rw [Nat.add_zero, h0]; exact hu
  | 1, hu => rw [h1]; exact hu
theorem sortWorldK_grown (w : World) (blk n : Nat) (d : Array S67) (os : Array Obj) : w.grownBy (sortWorldK encPt 2 w blk 0 n d os) (some blk) := by
  refine ⟨rfl, rfl, rfl, size_sortWorldK_c encPt 2 w blk 0 n d os, fun k hk hne => ?_⟩
  have hne' : ¬ blk = k := fun e => hne (by rw [e])
  have hk' : k < (putRowK encPt 2 (Sort.ahead w n) blk 0 d).heap.size := by rw [size_putRowK]; exact hk
  show ((putRowK encPt 2 (Sort.ahead w n) blk 0 d).heap ++ os)[k]? = _
  rw [Array.getElem?_append_left hk']
  unfold putRowK putRow
  show (w.heap.modify blk (onCells (putCells id 0 (flatK encPt 2 d))))[k]? = _
  rw [Array.getElem?_modify, if_neg hne']
theorem sort_own (base n : Nat) (v : Value) (R : List S67) (w : World) (h : w.ownsRow base 67 2 v n (flat R)) (hn : n = R.length) (hR : R.length ≤ 1000000) :
    Calls Tryd.prog 25 #[v, .func (.func 26) #[] #[]] w fun e w' => e = .returned (.tuple #[]) ∧ ∃ A c, v = .slice A R.length c ∧ R.length ≤ c ∧ Kd.C k67 w' A R.length (ptSort R) ∧ w.grownBy w' v.ownBlock := by
  subst hn
  rcases h.2 with ⟨rfl, h0⟩ | ⟨g, cap, cur, rfl, hbg, hg, hnc, hcm, hcs, htake⟩
  · obtain rfl : R = [] := List.eq_nil_of_length_eq_zero h0
    refine (sort_none none 0 _ w).mono ?_
    rintro e w' ⟨rfl, rfl⟩
    exact ⟨rfl, none, 0, rfl, Nat.le_refl _, ⟨by simp [ptSort], by show 0 ≤ _; omega, fun h => absurd h (by simp)⟩, ⟨rfl, rfl, rfl, Nat.le_refl _, fun _ _ _ => rfl⟩⟩
  · have hcell : ∀ j, j < R.length * 2 → w.cell? ⟨g, j, none⟩ = (flat R)[j]? := fun j hj => by
      rw [cell_of_row w g j cur 67 (0, 0) hg, ← htake, List.getElem?_take, if_pos hj, Array.getElem?_toList]
    have hblk : g < w.heap.size := blk_lt hg
    have hH : HoldsK encPt 2 w g 0 R.toArray := by
      intro j hj
      have hj' : j < R.length * 2 := by simpa using hj
      refine ⟨?_, blk_frozen hg _⟩
      rw [Nat.zero_add, hcell j hj', id, get_flatK encPt 2 R.toArray j (by simpa using hj')]
      have hq : j / 2 < R.length := by omega
      obtain ⟨f0, f1⟩ := flat_get R (j / 2) hq
      have e1 : R.toArray[j / 2]! = R[j / 2] := by simp [hq]
      rw [e1]
      rcases Nat.mod_two_eq_zero_or_one j with hm | hm
      · have e2 : j = j / 2 * 2 := by omega
        rw [hm]
        rw [← e2] at f0
        rw [f0]
        rfl
      · have e2 : j = j / 2 * 2 + 1 := by omega
        rw [hm]
        rw [← e2] at f1
        rw [f1]
        rfl
    refine (sort_calls g 0 cap R w hH hblk (by omega)).mono ?_
    rintro e w' ⟨rfl, m, os, rfl⟩
    have hlen : (ptSort R).length = R.length := List.length_mergeSort R
    have hH2 := holdsK_sortWorldK_c encPt 2 w g 0 R.toArray (ptSort R).toArray m os hH hblk (by simp [hlen])
    refine ⟨rfl, _, cap, rfl, hnc, ?_, sortWorldK_grown w g m _ os⟩
    have := pts_reads (w := sortWorldK encPt 2 w g 0 m (ptSort R).toArray os) (g := g) (l := ptSort R) (by omega) (fun k hk => by
      have c0 := (HoldsK.cell hH2 (i := k) (c := 0) (by simpa using hk) (by omega)).1
      have c1 := (HoldsK.cell hH2 (i := k) (c := 1) (by simpa using hk) (by omega)).1
      have e1 : (ptSort R).toArray[k]! = (ptSort R)[k] := by simp [hk]
      rw [e1, Nat.zero_add] at c0 c1
      exact ⟨c0, c1⟩)
    rwa [hlen] at this
end Go.Proofs.YtbcmmmcbineipaaDoor
set_option linter.unusedVariables false
set_option linter.unusedSimpArgs false
namespace Go.Proofs.YtbcmmmcbineipaaDoor
open Go.RowKit Go.Proofs.YtbcmmmcbineipaaDoorW.PrintWords Go.Proofs.YtbcmmmcbineipaaDoorW.PrintLast Go.Proofs.YtbcmmmcbineipaaDoorW.PrintMore
open Go.Proofs.YtbcmmmcbineipaaDoor.PR

theorem info67 : (Tryd.prog.info? 67).map (fun i => (i.zero, i.size, i.bytes)) = some (some (.agg #[.int .u64 0, .string ⟨#[]⟩]), 2, 24) := by kernel_rfl

theorem cell_alloc' {W : World} {a : Addr} {v : Value} (o : Obj) (h : W.cell? a = some v) : (W.alloc o).cell? a = some v := by rw [World.cell?_alloc_some W a o (by rw [h]; rfl), h]
theorem own_ne {w : World} {base : Nat} {e t : TypeId} {size : Nat} {v : Value} {n g : Nat} {xs : List Value} {cs : Array Value} (h : w.ownsRow base e size v n xs) (hb : w.heap[g]? = some (.cells cs t (0, 0))) (hte : t ≠ e) : v.ownBlock ≠ some g := by
  rcases h.2 with ⟨rfl, _⟩ | ⟨g', cap, cur, rfl, _, hgb, _⟩
  · simp [Value.ownBlock]
  · intro e'
    obtain rfl : g = g' := by simpa [Value.ownBlock] using e'.symm
    have := hb.symm.trans hgb
    simp at this
    exact hte this.2
theorem own_ge {w : World} {base : Nat} {e : TypeId} {size : Nat} {v : Value} {n g : Nat} {xs : List Value} (h : w.ownsRow base e size v n xs) (hg : v.ownBlock = some g) : base ≤ g := by
  rcases h.2 with ⟨rfl, _⟩ | ⟨g', cap, cur, rfl, hb, hgb, _⟩
  · simp [Value.ownBlock] at hg
  · obtain rfl : g = g' := by simpa [Value.ownBlock] using hg.symm
    exact hb
theorem grownBy_cell (W : World) (b : Nat) (v : Value) : W.grownBy (W.setCell ⟨b, 0, none⟩ v) (some b) :=
  ⟨rfl, rfl, rfl, by show _ ≤ (W.heap.modify b _).size; rw [Array.size_modify]; exact Nat.le_refl _, fun k _ hk => Below.heap_setCell _ _ _ k (fun e => hk (by rw [e]))⟩
theorem cell_grown {w wx : World} {row : Option Nat} {a : Addr} {v : Value} (hg : w.grownBy wx row) (hne : row ≠ some a.block) (h : w.cell? a = some v) : wx.cell? a = some v :=
  (World.cell?_of_block (hg.block a.block (World.block_lt_of_cell? w _ h) (Ne.symm hne))).trans h
theorem range_grown {w wx : World} {row : Option Nat} {b o : Nat} {cs : List Value} (hg : w.grownBy wx row) (hne : row ≠ some b) (h : w.rangeAt b o cs) : wx.rangeAt b o cs := fun j v hv => cell_grown (a := ⟨b, o + j, none⟩) hg hne (h j v hv)
theorem frz_alloc {W : World} {a : Addr} {v : Value} (o : Obj) (h : W.cell? a = some v) (f : W.frozen? a = false) : (W.alloc o).frozen? a = false :=
  (World.frozen?_of_block (Below.heap_alloc W o a.block (World.block_lt_of_cell? W _ h))).trans f
theorem frz_later {w wx : World} {a : Addr} {v : Value} (hb : Below w.heap.size w wx) (h : w.cell? a = some v) (f : w.frozen? a = false) : wx.frozen? a = false :=
  (World.frozen?_of_block (hb.block a.block (World.block_lt_of_cell? w _ h))).trans f
theorem frz_grown {w wx : World} {row : Option Nat} {a : Addr} {v : Value} (hg : w.grownBy wx row) (hne : row ≠ some a.block) (h : w.cell? a = some v) (f : w.frozen? a = false) : wx.frozen? a = false :=
  (World.frozen?_of_block (hg.block a.block (World.block_lt_of_cell? w _ h) (Ne.symm hne))).trans f
theorem range_later {w wx : World} {b o : Nat} {cs : List Value} (hb : Below w.heap.size w wx) (h : w.rangeAt b o cs) : wx.rangeAt b o cs := fun j v hv => cell_later hb (h j v hv)
theorem own_later {w wx : World} {base : Nat} {e : TypeId} {size : Nat} {v : Value} {n : Nat} {xs : List Value} (h : w.ownsRow base e size v n xs) (hb : Below w.heap.size w wx) : wx.ownsRow base e size v n xs := by
  rcases ho : v.ownBlock with _ | g
  · exact h.kept (row := none) ⟨hb.os, hb.tape, hb.output, hb.size, fun k hk _ => hb.block k hk⟩ (.inl ho)
  · exact h.kept (row := none) ⟨hb.os, hb.tape, hb.output, hb.size, fun k hk _ => hb.block k hk⟩ (.inr (by rw [ho]; simp))
theorem e46_at {w : World} {A : Option Addr} {l : List S46} (h : Kd.C k46 w A l.length l) (k : Nat) (hk : k < l.length) : ∃ ad, A = some ad ∧ w.cell? (ad.add (k * 2)) = some (.string l[k].f0) ∧ w.cell? ⟨(ad.add (k * 2)).block, (ad.add (k * 2)).off + 1, none⟩ = some (.int .i64 l[k].f1) := by
  obtain ⟨ad, rfl, hc0, hc1⟩ := at_T46 h (k : Int) (by omega) (by omega)
  have ex : rd_T46 l (k : Int) = l[k] := by simp [rd_T46, List.getD_eq_getElem?_getD, List.getElem?_eq_getElem hk]
  rw [ex] at hc0 hc1
  simp only [Int.toNat_natCast] at hc0 hc1
  exact ⟨ad, rfl, hc0, hc1⟩

set_option maxHeartbeats 400000 in
set_option maxRecDepth 100000 in
theorem build_calls (kb : List Int) (A : Option Addr) (c : Nat) (l : List S46) (per : Int) (w0 : World) (hkb : kb.length = 16) (hr : Kd.C k46 w0 A l.length l) (hc : l.length ≤ c) (hl : l.length ≤ 6) (hs : ∀ e ∈ l, e.f0.size ≤ 140737488354000) (hper : per ≤ 99) (hw : ∀ e ∈ l, 1 ≤ e.f1 ∧ e.f1 ≤ 65535) (hchk : chk l = 0) :
    Calls Tryd.prog 10 #[.agg (nums .u8 kb).toArray, .slice A l.length c, .int .i64 per] w0 fun e w' => (∃ g, e = .returned (.tuple #[.pointer (some ⟨g, 0, none⟩), .int .i64 0]) ∧ w0.heap.size ≤ g ∧ RingAt w' g (ptSort (rawPts kb per l))) ∧ Below w0.heap.size w0 w' := by
  have HR := Lib.hid hr
  have HS := Lib.hid hs
  have HW := Lib.hid hw
  clear hw
  have HKB := Lib.hid hkb
  have HCH := Lib.hid (chk_calls A c l)
  rw [hchk] at HCH
  clear hr hs hchk hkb
  have hbK : Hid ((w0.alloc (.cells (nums .u8 kb).toArray 26)).heap[w0.heap.size]? = some (.cells (nums .u8 kb).toArray 26 (0, 0))) := blk_new _ _
  have HB := Lib.hid (below_alloc (Below.refl w0.heap.size w0) (.cells (nums .u8 kb).toArray 26))
  obtain ⟨kl, Hkl⟩ : ∃ kl : List Value, Hid (kl = nums .u8 kb) := ⟨_, rfl⟩
  have hkl : kl.length = 16 := by rw [Hkl.out]; simp [nums, HKB.out]
  have hk1 : ∀ v ∈ kl, v.oneCell' = true := by
    rw [Hkl.out]
    intro v hv
    obtain ⟨i, _, rfl⟩ := List.mem_map.1 hv
    rfl
  have HKL := Lib.hid hkl
  have HK1 := Lib.hid hk1
  clear hkl hk1
  rw [← Hkl.out] at hbK HB ⊢
  go_enter Tryd.func10, Tryd.ntmps10
  go_wp2_with fail
  generalize w0.alloc (Obj.cells kl.toArray 26) = w1 at HB hbK ⊢
  refine (HCH.out w1 (Kd.C_below HR.out HB.out) hc (by omega) (fun e he => Nat.le_trans (HS.out e he) (by unfold maxLen; omega))).mono ?_
  rintro e w2 ⟨rfl, hb2⟩
  have HB2 := Lib.hid (HB.out.trans (hb2.mono HB.out.size))
  have HK2 := Lib.hid (blk_below hbK.out hb2)
  clear HB hbK hb2 HCH w1
  obtain ⟨p, Hp⟩ : ∃ p : Int, Hid (p = perOf per) := ⟨_, rfl⟩
  have hp1 : 1 ≤ p ∧ p ≤ 99 := by rw [Hp.out]; unfold perOf; omega
  have hp2 : max 1 (min per 256) = p := Hp.out.symm
  go_wp2_with fail
  go_loopw [9, 26] (fun gv i wr => ∃ k : Nat, k ≤ l.length ∧ i = .int .i64 k ∧ gv = .int .i64 (greatest (l.take k)) ∧ Hid (wr.heap[w0.heap.size]? = some (.cells kl.toArray 26 (0, 0))) ∧ Hid (Below w0.heap.size w0 wr)) (fun _ i _ => l.length - (intOf i).toNat)
  case atStart => exact ⟨0, Nat.zero_le _, rfl, rfl, HK2, HB2⟩
  case round =>
    obtain ⟨k, hk, rfl, rfl, HK3, HB3⟩ := hrel
    by_cases hlt : k < l.length
    · obtain ⟨ad, rfl, hc0, hc1⟩ := e46_at (Kd.C_below HR.out HB3.out) k hlt
      obtain ⟨x, Hx⟩ : ∃ x : S46, Hid (x = l[k]) := ⟨l[k], rfl⟩
      rw [← Hx.out] at hc0 hc1
      have hg := greatest_succ l k hlt
      rw [← Hx.out] at hg
      obtain ⟨G, HG⟩ : ∃ G : Int, Hid (G = greatest (l.take k)) := ⟨_, rfl⟩
      rw [← HG.out] at hg ⊢
      obtain ⟨G2, HG2⟩ : ∃ G2 : Int, Hid (G2 = greatest (l.take (k + 1))) := ⟨_, rfl⟩
      rw [← HG2.out] at hg
      have hg' : max G x.f1 = G2 := hg.symm
      clear hg
      go_wp2_with fail
      go_roundw
      case rel => exact ⟨k + 1, by omega, by go_num, by rw [← HG2.out], blk_alloc HK3.out _, HB3.out.alloc HB3.out.size _⟩
      case measure => simp [intOf]; omega
    · obtain rfl : k = l.length := by omega
      rw [List.take_length]
      obtain ⟨G, HG⟩ : ∃ G : Int, Hid (G = greatest l) := ⟨_, rfl⟩
      rw [← HG.out]
      go_wp2_with fail
      have hG1 : 1 ≤ G := by rw [HG.out]; exact greatest_pos l 1 (Int.le_refl _)
      have HGE : Hid (∀ e ∈ l, e.f1 ≤ G) := fun e he => by rw [HG.out]; exact (greatest_ge l 1).2 e he
      obtain ⟨gR, HgR⟩ : ∃ gR : Nat, Hid (gR = wr.heap.size) := ⟨_, rfl⟩
      have hbR : Hid ((wr.alloc (Obj.cells #[Value.slice none 0 0] 63)).heap[gR]? = some (.cells #[Value.slice none 0 0] 63 (0, 0))) := by rw [HgR.out]; exact blk_new _ _
      have HK4 := Lib.hid (blk_alloc HK3.out (Obj.cells #[Value.slice none 0 0] 63))
      have HB4 := Lib.hid (HB3.out.alloc HB3.out.size (Obj.cells #[Value.slice none 0 0] 63))
      have hgR : w0.heap.size ≤ gR := by rw [HgR.out]; exact HB3.out.size
      rw [← HgR.out]
      generalize wr.alloc (Obj.cells #[Value.slice none 0 0] 63) = w4 at hbR HK4 HB4 ⊢
      clear HK3 HB3 HgR hlt
      go_loopw [39] (fun i wr => ∃ k : Nat, k ≤ l.length ∧ i = .int .i64 k ∧ ∃ v : Value, Hid (wr.heap[gR]? = some (.cells #[v] 63 (0, 0))) ∧ Hid (wr.ownsRow w0.heap.size 67 2 v ((l.take k).flatMap (ptsOf kb p G)).length (flat ((l.take k).flatMap (ptsOf kb p G)))) ∧ ((l.take k).flatMap (ptsOf kb p G)).length ≤ k * 99 ∧ Hid (wr.heap[w0.heap.size]? = some (.cells kl.toArray 26 (0, 0))) ∧ Hid (Below w0.heap.size w0 wr)) (fun i _ => l.length - (intOf i).toNat)
      case atStart => exact ⟨0, Nat.zero_le _, rfl, _, hbR, World.ownsRow_nil _ _ _ _, Nat.zero_le _, HK4, HB4⟩
      case round =>
        obtain ⟨k, hk, rfl, v, HV5, HO5, hn5, HK5, HB5⟩ := hrel
        by_cases hlt : k < l.length
        · obtain ⟨ad, rfl, hc0, hc1⟩ := e46_at (Kd.C_below HR.out HB5.out) k hlt
          obtain ⟨x, Hx⟩ : ∃ x : S46, Hid (x = l[k]) := ⟨l[k], rfl⟩
          rw [← Hx.out] at hc0 hc1
          have hxm : x ∈ l := by rw [Hx.out]; exact List.getElem_mem hlt
          have hx1 := HW.out x hxm
          have hxg := HGE.out x hxm
          have hcnt := cnt_le p G x hp1.1 hx1.1 hxg
          obtain ⟨cn, Hcn⟩ : ∃ cn : Nat, Hid (cn = cntOf p G x) := ⟨_, rfl⟩
          rw [← Hcn.out] at hcnt
          have hm0 : 0 ≤ p * x.f1 := Int.mul_nonneg (by omega) (by omega)
          have hm1 : p * x.f1 ≤ 99 * 65535 := Int.mul_le_mul hp1.2 hx1.2 (by omega) (by omega)
          have hmul : IntKind.i64.wrap (p * x.f1) = p * x.f1 := by unfold IntKind.wrap; simp [IntKind.bits, IntKind.signed]; omega
          have hG0 : ¬ G = 0 := by omega
          obtain ⟨q, Hq⟩ : ∃ q : Int, Hid (q = (p * x.f1) / G) := ⟨_, rfl⟩
          have hq1 : (p * x.f1) / G = q := Hq.out.symm
          have hq2 : (p * x.f1).tdiv G = q := by rw [Int.tdiv_eq_ediv_of_nonneg hm0]; exact hq1
          have hq0 : 0 ≤ q ∧ q ≤ 99 * 65535 := by
            rw [← hq1]
            exact ⟨Int.ediv_nonneg hm0 (by omega), Int.le_trans (Int.ediv_le_self _ hm0) hm1⟩
          have hqw : IntKind.i64.wrap q = q := by unfold IntKind.wrap; simp [IntKind.bits, IntKind.signed]; omega
          have hN : max 1 q = (cn : Int) := by rw [Hcn.out, ← hq1]; unfold cntOf; omega
          go_wp2_with fail
          obtain ⟨gE, HgE⟩ : ∃ gE : Nat, Hid (gE = wr.heap.size) := ⟨_, rfl⟩
          have hbE : Hid ((wr.alloc (Obj.cells #[Value.string x.f0, Value.int IntKind.i64 x.f1] 58)).heap[gE]? = some (.cells #[Value.string x.f0, Value.int IntKind.i64 x.f1] 58 (0, 0))) := by rw [HgE.out]; exact blk_new _ _
          have HV6 := Lib.hid (blk_alloc HV5.out (Obj.cells #[Value.string x.f0, Value.int IntKind.i64 x.f1] 58))
          have HO6 := Lib.hid (HO5.out.alloc (Obj.cells #[Value.string x.f0, Value.int IntKind.i64 x.f1] 58))
          have HK6 := Lib.hid (blk_alloc HK5.out (Obj.cells #[Value.string x.f0, Value.int IntKind.i64 x.f1] 58))
          have HB6 := Lib.hid (HB5.out.alloc HB5.out.size (Obj.cells #[Value.string x.f0, Value.int IntKind.i64 x.f1] 58))
          rw [← HgE.out]
          generalize wr.alloc (Obj.cells #[Value.string x.f0, Value.int IntKind.i64 x.f1] 58) = w6 at hbE HV6 HO6 HK6 HB6 ⊢
          clear HV5 HO5 HK5 HB5 HgE hm0 hm1 hmul hq1 hq2 hq0 hqw Hq
          obtain ⟨R, HR6⟩ : ∃ R : List S67, Hid (R = (l.take k).flatMap (ptsOf kb p G)) := ⟨_, rfl⟩
          rw [← HR6.out] at HO6 hn5
          go_loopw [50] (fun i wr => ∃ j : Nat, j ≤ cn ∧ i = .int .i64 j ∧ ∃ v : Value, Hid (wr.heap[gR]? = some (.cells #[v] 63 (0, 0))) ∧ Hid (wr.ownsRow w0.heap.size 67 2 v (R ++ (List.range j).map (ptOf kb x)).length (flat (R ++ (List.range j).map (ptOf kb x)))) ∧ Hid (wr.heap[gE]? = some (.cells #[Value.string x.f0, Value.int IntKind.i64 x.f1] 58 (0, 0))) ∧ Hid (wr.heap[w0.heap.size]? = some (.cells kl.toArray 26 (0, 0))) ∧ Hid (Below w0.heap.size w0 wr)) (fun i _ => cn - (intOf i).toNat)
          case atStart => exact ⟨0, Nat.zero_le _, rfl, v, HV6, by simpa using HO6, hbE, HK6, HB6⟩
          case round =>
            obtain ⟨j, hj, rfl, v7, HV7, HO7, HE7, HK7, HB7⟩ := hrel
            by_cases hlj : j < cn
            · obtain ⟨d, Hd⟩ : ∃ d : ByteArray, Hid (d = digs j) := ⟨_, rfl⟩
              have hdig := fun w => digits_calls j (by omega) w
              have hdl : d.size ≤ 2 := by rw [Hd.out]; exact decDigits_small j (by omega)
              obtain ⟨S, HS7⟩ : ∃ S : Int, Hid (S = ssum kb (lbytes [x.f0, ⟨#[35]⟩, d])) := ⟨_, rfl⟩
              have hsum := fun B t w => sum3_calls kb HKB.out x.f0 ⟨#[35]⟩ d (by have := HS.out x hxm; show _ + 1 + _ ≤ _; omega) B t w
              rw [← HS7.out, ← Hkl.out] at hsum
              have HSU := Lib.hid hsum
              have HDI : Hid (∀ w, Calls Tryd.prog 24 #[.int .i64 j] w fun e w' => e = .returned (.string d) ∧ w' = w) := by rw [Hd.out]; exact hdig
              clear hsum hdig
              go_wp2_with fail
              have hu := Tryd.underlying26
              have hi : (Tryd.prog.info? 26).map (·.size) = some kl.length := by rw [HKL.out]; kernel_rfl
              have hkl := HKL.out
              have hk1 := HK1.out
              have cR := blk_cell HV7.out 0
              have fR : wr.frozen? ⟨gR, 0, none⟩ = false := blk_frozen HV7.out 0
              have cE := blk_cell HE7.out 0
              have rK : wr.rangeAt w0.heap.size 0 kl := fun i v hi => by
                rw [Nat.zero_add, blk_cell HK7.out]
                simpa using hi
              simp only [List.getElem?_toArray, List.getElem?_cons_zero] at cR cE
              obtain ⟨i0, hi0, hz0, hz1, hz2⟩ := info_parts info67
              have hn8 : (R ++ List.map (ptOf kb x) (List.range j)).length ≤ 1000 := by simp; omega
              obtain ⟨xs, Hxs⟩ : ∃ xs : List S67, Hid (xs = R ++ List.map (ptOf kb x) (List.range j)) := ⟨_, rfl⟩
              rw [← Hxs.out] at HO7 hn8
              have hneR := own_ne HO7.out HV7.out (by decide)
              have hneE := own_ne HO7.out HE7.out (by decide)
              have hneK := own_ne HO7.out HK7.out (by decide)
              have hn9 : xs.length + 1 ≤ maxLen := by unfold maxLen; omega
              have hn10 : (xs.length + 1) * 24 ≤ 140737488355328 := by omega
              obtain ⟨Sp, HSp⟩ : ∃ Sp : World → Prop, Hid (Sp = fun w' => w'.cell? ⟨gR, 0, none⟩ = some v7 ∧ w'.cell? ⟨gE, 0, none⟩ = some (.string x.f0) ∧ w'.rangeAt w0.heap.size 0 kl) := ⟨_, rfl⟩
              refine wp_region_noPanic ?_
              have hBt : True := trivial
              refine hd_region (n := 19) (S := fun w' => w'.cell? ⟨gR, 0, none⟩ = some v7 ∧ w'.cell? ⟨gE, 0, none⟩ = some (.string x.f0) ∧ w'.rangeAt w0.heap.size 0 kl) (by kernel_rfl) (by kernel_rfl) ⟨cR, cE, rK⟩ (fun hHeld => ?_)
              clear hBt
              refine HdSt.takeAt (i := 0) 53 (v := ?_) (by kernel_rfl) rfl rfl (by decide) (by kernel_rfl) (by kernel_rfl) (fun _ _ _ h => h) (Or.inl ⟨by rfl, ?_⟩) (by assumption) ?_
              rotate_left 1
              · intro w hSw; (try dsimp only at hSw); go_simp; try with_reducible rfl
              try simp only [Act.put, List.setIfInBounds_toArray, List.set_cons_zero, List.set_cons_succ]
              refine HdSt.takeAt (i := 1) 54 (v := ?_) (by kernel_rfl) rfl rfl (by decide) (by kernel_rfl) (by kernel_rfl) (fun _ _ _ h => h) (Or.inl ⟨by rfl, ?_⟩) (by assumption) ?_
              rotate_left 1
              · intro w hSw; (try dsimp only at hSw); go_simp; try with_reducible rfl
              try simp only [Act.put, List.setIfInBounds_toArray, List.set_cons_zero, List.set_cons_succ]
              refine HdSt.takeAt (i := 2) 55 (v := ?_) (by kernel_rfl) rfl rfl (by decide) (by kernel_rfl) (by kernel_rfl) (fun _ _ _ h => h) (Or.inl ⟨by rfl, ?_⟩) (by assumption) ?_
              rotate_left 1
              · intro w hSw; (try dsimp only at hSw); go_simp; try with_reducible rfl
              try simp only [Act.put, List.setIfInBounds_toArray, List.set_cons_zero, List.set_cons_succ]
              refine HdSt.takeAt (i := 3) 56 (v := ?_) (by kernel_rfl) rfl rfl (by decide) (by kernel_rfl) (by kernel_rfl) (fun _ _ _ h => h) (Or.inl ⟨by rfl, ?_⟩) (by assumption) ?_
              rotate_left 1
              · intro w hSw; (try dsimp only at hSw); go_simp; try with_reducible rfl
              try simp only [Act.put, List.setIfInBounds_toArray, List.set_cons_zero, List.set_cons_succ]
              refine HdSt.takeAt (i := 4) 57 (v := ?_) (by kernel_rfl) rfl rfl (by decide) (by kernel_rfl) (by kernel_rfl) (fun _ _ _ h => h) (Or.inl ⟨by rfl, ?_⟩) (by assumption) ?_
              rotate_left 1
              · intro w hSw; (try dsimp only at hSw); go_simp; try with_reducible rfl
              try simp only [Act.put, List.setIfInBounds_toArray, List.set_cons_zero, List.set_cons_succ]
              refine' HdSt.takeAt (i := 5) 58 (v := _) (by kernel_rfl) rfl rfl (by decide) (by kernel_rfl) (by kernel_rfl) (fun _ _ _ h => h) (yieldsIf_load_mid (by rfl) _ _ rfl _ _ rfl _ _ ?hS5 ?hu5 ?hd5 ?hi5) (by assumption) ?rest5
              case hS5 => intro w hSw; exact hSw.2.2
              case hu5 => assumption
              case hd5 => rfl
              case hi5 => assumption
              try simp only [Act.put, List.setIfInBounds_toArray, List.set_cons_zero, List.set_cons_succ]
              refine HdSt.takeAt (i := 6) 59 (v := ?_) (by kernel_rfl) rfl rfl (by decide) (by kernel_rfl) (by kernel_rfl) (fun _ _ _ h => h) (Or.inl ⟨by rfl, ?_⟩) (by assumption) ?_
              rotate_left 1
              · intro w hSw; (try dsimp only at hSw); go_simp; try with_reducible rfl
              try simp only [Act.put, List.setIfInBounds_toArray, List.set_cons_zero, List.set_cons_succ]
              refine HdSt.takeAt (i := 7) 60 (v := ?_) (by kernel_rfl) rfl rfl (by decide) (by kernel_rfl) (by kernel_rfl) (fun _ _ _ h => h) (Or.inl ⟨by rfl, ?_⟩) (by assumption) ?_
              rotate_left 1
              · intro w hSw; (try dsimp only at hSw); go_simp; try with_reducible rfl
              try simp only [Act.put, List.setIfInBounds_toArray, List.set_cons_zero, List.set_cons_succ]
              refine HdSt.takeAt (i := 8) 61 (v := ?_) (by kernel_rfl) rfl rfl (by decide) (by kernel_rfl) (by kernel_rfl) (fun _ _ _ h => h) (Or.inl ⟨by rfl, ?_⟩) (by assumption) ?_
              rotate_left 1
              · intro w hSw; (try dsimp only at hSw); go_simp; try with_reducible rfl
              try simp only [Act.put, List.setIfInBounds_toArray, List.set_cons_zero, List.set_cons_succ]
              refine HdSt.takeAt (i := 12) 65 (v := ?_) (by kernel_rfl) rfl rfl (by decide) (by kernel_rfl) (by kernel_rfl) (fun _ _ _ h => h) (Or.inl ⟨by rfl, ?_⟩) (by assumption) ?_
              rotate_left 1
              · intro w hSw; (try dsimp only at hSw); go_simp; try with_reducible rfl
              try simp only [Act.put, List.setIfInBounds_toArray, List.set_cons_zero, List.set_cons_succ]
              refine HdSt.takeAt (i := 13) 66 (v := ?_) (by kernel_rfl) rfl rfl (by decide) (by kernel_rfl) (by kernel_rfl) (fun _ _ _ h => h) (Or.inl ⟨by rfl, ?_⟩) (by assumption) ?_
              rotate_left 1
              · intro w hSw; (try dsimp only at hSw); go_simp; try with_reducible rfl
              try simp only [Act.put, List.setIfInBounds_toArray, List.set_cons_zero, List.set_cons_succ]
              refine HdSt.one (i := 9) (by kernel_rfl) (by decide) rfl (fun K hK => ?_)
              go_simp
              refine (HDI.out _).mono ?_
              rintro e w' ⟨rfl, rfl⟩
              refine hK.out _ _ ⟨cR, cE, rK⟩ (fun hHeld => ?_)
              clear hK K
              try simp only [Act.put, List.setIfInBounds_toArray, List.set_cons_zero, List.set_cons_succ]
              refine HdSt.one (i := 10) (by kernel_rfl) (by decide) rfl (fun K hK => ?_)
              go_simp
              refine hK.out _ _ ⟨cell_alloc' _ cR, cell_alloc' _ cE, World.rangeAt_alloc rK _⟩ (fun hHeld => ?_)
              clear hK K
              try simp only [Act.put, List.setIfInBounds_toArray, List.set_cons_zero, List.set_cons_succ]
              refine HdSt.one (i := 11) (by kernel_rfl) (by decide) rfl (fun K hK => ?_)
              go_simp
              refine (HSU.out _ _ _ (blk_drew (blk_new _ _))).mono ?_
              rintro e w8 ⟨rfl, hb8⟩
              have HO8 := Lib.hid (own_later (HO7.out.alloc _).drew hb8)
              refine hK.out _ _ ⟨cell_later hb8 hHeld.1, cell_later hb8 hHeld.2.1, range_later hb8 hHeld.2.2⟩ (fun hHeld => ?_)
              clear hK K
              try simp only [Act.put, List.setIfInBounds_toArray, List.set_cons_zero, List.set_cons_succ]
              refine HdSt.takeAt (i := 14) 67 (v := ?_) (by kernel_rfl) rfl rfl (by decide) (by kernel_rfl) (by kernel_rfl) (fun _ _ _ h => h) (Or.inl ⟨by rfl, ?_⟩) (by assumption) ?_
              rotate_left 1
              · intro w hSw; (try dsimp only at hSw); go_simp; try with_reducible rfl
              try simp only [Act.put, List.setIfInBounds_toArray, List.set_cons_zero, List.set_cons_succ]
              refine HdSt.one (i := 15) (by kernel_rfl) (by decide) rfl (fun K hK => ?_)
              go_simp
              refine hK.out _ _ ⟨cell_alloc' _ hHeld.1, cell_alloc' _ hHeld.2.1, World.rangeAt_alloc hHeld.2.2 _⟩ (fun hHeld => ?_)
              clear hK K
              try simp only [Act.put, List.setIfInBounds_toArray, List.set_cons_zero, List.set_cons_succ]
              refine HdSt.one (i := 16) (by kernel_rfl) (by decide) rfl (fun K hK => ?_)
              refine step_append_lies _ (by rfl) _ _ _ (by rfl) w0.heap.size 67 i0 _ 2 24 Tryd.underlying61 hi0 hz0 hz1 hz2 rfl (by omega) v7 xs.length (flat xs) (by rfl) (HO8.out.alloc _)
                ⟨w8.heap.size, 0, none⟩ 1 1 [.int .u64 S, .string x.f0] (by rfl) (by rfl) (World.news_of_block (cs := #[.int .u64 S, .string x.f0]) (t := 67) (fr := (0, 0)) (heap_alloc_new w8 _)) (by simp [Value.oneCell'])
                (by omega) hn9 hn10 (by have h1 := HB7.out.size; have h2 := hb8.size; simp at h2 ⊢; omega) _ (by rfl) ?_
              intro gg cap w9 hown9 hgrow hat hlt9
              refine hK.out _ _ ⟨cell_grown hgrow hneR hHeld.1, cell_grown hgrow hneE hHeld.2.1, range_grown hgrow hneK hHeld.2.2⟩ (fun hHeld => ?_)
              clear hK K
              try simp only [Act.put, List.setIfInBounds_toArray, List.set_cons_zero, List.set_cons_succ]
              refine HdSt.takeAt (i := 17) 70 (v := ?_) (by kernel_rfl) rfl rfl (by decide) (by kernel_rfl) (by kernel_rfl) (fun _ _ _ h => h) (Or.inl ⟨by rfl, ?_⟩) (by assumption) ?_
              rotate_left 1
              · intro w hSw; (try dsimp only at hSw); go_simp; try with_reducible rfl
              try simp only [Act.put, List.setIfInBounds_toArray, List.set_cons_zero, List.set_cons_succ]
              refine HdSt.takeAt (i := 18) 71 (v := ?_) (by kernel_rfl) rfl rfl (by decide) (by kernel_rfl) (by kernel_rfl) (fun _ _ _ h => h) (Or.inl ⟨by rfl, ?_⟩) (by assumption) ?_
              rotate_left 1
              · intro w hSw; (try dsimp only at hSw); go_simp; try with_reducible rfl
              try simp only [Act.put, List.setIfInBounds_toArray, List.set_cons_zero, List.set_cons_succ]
              refine HdSt.done (by kernel_rfl) ?_
              have HV9 := Lib.hid (blk_grown (blk_alloc (blk_below (blk_drew (blk_alloc HV7.out _)) hb8) _) hgrow (Ne.symm hneR))
              have HE9 := Lib.hid (blk_grown (blk_alloc (blk_below (blk_drew (blk_alloc HE7.out _)) hb8) _) hgrow (Ne.symm hneE))
              have HK9 := Lib.hid (blk_grown (blk_alloc (blk_below (blk_drew (blk_alloc HK7.out _)) hb8) _) hgrow (Ne.symm hneK))
              have hsz7 := HB7.out.size
              have hsz8 : wr.heap.size + 1 ≤ w8.heap.size := by have := hb8.size; simpa using this
              have HB8 : Hid (Below w0.heap.size w0 w8) := (((HB7.out.alloc hsz7 _).drew).trans (hb8.mono (by simp; omega)))
              have HB9 : Hid (Below w0.heap.size w0 w9) := (HB8.out.alloc (by omega) _).grown hgrow (by simp; omega) (fun g hg => own_ge HO7.out hg)
              have fR9 : w9.frozen? ⟨gR, 0, none⟩ = false := blk_frozen HV9.out 0
              have cR9 := hHeld.1
              have HO9 := Lib.hid hown9
              clear hHeld hown9 hgrow hb8 hneR hneE hneK
              change wpList _ _ _ [_] _ _
              go_wp2
              refine NoPanic.normal ?_
              have HVx : Hid ((w9.setCell ⟨gR, 0, none⟩ (Value.slice (some ⟨gg, 0, none⟩) (xs.length + 1) cap)).heap[gR]? = some (.cells #[Value.slice (some ⟨gg, 0, none⟩) (xs.length + 1) cap] 63 (0, 0))) := blk_set HV9.out 0 _
              have hne := own_ne HO9.out HV9.out (by decide)
              have HOx : Hid ((w9.setCell ⟨gR, 0, none⟩ (Value.slice (some ⟨gg, 0, none⟩) (xs.length + 1) cap)).ownsRow w0.heap.size 67 2 (.slice (some ⟨gg, 0, none⟩) (xs.length + 1) cap) (xs.length + 1) (flat xs ++ [Value.int IntKind.u64 S, Value.string x.f0])) := HO9.out.kept (grownBy_cell w9 gR _) (.inr hne)
              have HEx : Hid ((w9.setCell ⟨gR, 0, none⟩ (Value.slice (some ⟨gg, 0, none⟩) (xs.length + 1) cap)).heap[gE]? = some (.cells #[Value.string x.f0, Value.int IntKind.i64 x.f1] 58 (0, 0))) := blk_far HE9.out (blk_ne HE9.out HV9.out (by decide)) _
              have HKx : Hid ((w9.setCell ⟨gR, 0, none⟩ (Value.slice (some ⟨gg, 0, none⟩) (xs.length + 1) cap)).heap[w0.heap.size]? = some (.cells kl.toArray 26 (0, 0))) := blk_far HK9.out (blk_ne HK9.out HV9.out (by decide)) _
              have HBx : Hid (Below w0.heap.size w0 (w9.setCell ⟨gR, 0, none⟩ (Value.slice (some ⟨gg, 0, none⟩) (xs.length + 1) cap))) := HB9.out.setCell (p := ⟨gR, 0, none⟩) hgR _
              obtain ⟨sv, Hsv⟩ : ∃ sv : Value, Hid (sv = Value.slice (some ⟨gg, 0, none⟩) (xs.length + 1) cap) := ⟨_, rfl⟩
              rw [← Hsv.out] at HVx HOx HEx HKx HBx ⊢
              generalize w9.setCell ⟨gR, 0, none⟩ sv = wx at HVx HOx HEx HKx HBx ⊢
              clear fR9 cR9
              have hstep : flat xs ++ [Value.int IntKind.u64 S, Value.string x.f0] = flat (R ++ List.map (ptOf kb x) (List.range (j + 1))) := by
                rw [List.range_succ, List.map_append, ← List.append_assoc, ← Hxs.out, flat_append]
                congr 1
                rw [HS7.out, Hd.out]
                rfl
              have hlen : xs.length + 1 = (R ++ List.map (ptOf kb x) (List.range (j + 1))).length := by rw [Hxs.out]; simp; omega
              rw [hstep, hlen] at HOx
              go_wp2
              go_roundw
              case rel => exact ⟨j + 1, by omega, by go_num, sv, HVx, HOx, HEx, HKx, HBx⟩
              case measure => simp [intOf]; omega
            · obtain rfl : j = cn := by omega
              have hfl : R ++ List.map (ptOf kb x) (List.range j) = (l.take (k + 1)).flatMap (ptsOf kb p G) := by
                rw [List.take_succ_eq_append_getElem hlt, List.flatMap_append, ← HR6.out, ← Hx.out]
                congr 1
                simp [ptsOf, ← Hcn.out]
              have hnl : (R ++ List.map (ptOf kb x) (List.range j)).length ≤ (k + 1) * 99 := by simp; omega
              rw [hfl] at HO7 hnl
              go_wp2
              go_roundw
              case rel => exact ⟨k + 1, by omega, by go_num, v7, HV7, HO7, hnl, HK7, HB7⟩
              case measure => simp [intOf]; omega
        · obtain rfl : k = l.length := by omega
          rw [List.take_length] at HO5 hn5
          obtain ⟨R, HRr⟩ : ∃ R : List S67, Hid (R = l.flatMap (ptsOf kb p G)) := ⟨_, rfl⟩
          rw [← HRr.out] at HO5 hn5
          have cR := blk_cell HV5.out 0
          simp only [List.getElem?_toArray, List.getElem?_cons_zero] at cR
          have hraw : R = rawPts kb per l := by rw [HRr.out, HG.out, Hp.out]; rfl
          have HRW := Lib.hid hraw
          clear hraw
          go_wp2_with fail
          refine (sort_own w0.heap.size _ v R wr HO5.out rfl (by omega)).mono ?_
          rintro e w8 ⟨rfl, A8, c8, rfl, hc8, hC8, hg8⟩
          have hV8 := Lib.hid (blk_grown HV5.out hg8 (Ne.symm (own_ne HO5.out HV5.out (by decide))))
          have HB8 : Hid (Below w0.heap.size w0 w8) := HB5.out.grown hg8 HB5.out.size (fun g hg => own_ge HO5.out hg)
          have HC8 := Lib.hid hC8
          clear hC8 hg8 cR
          go_wp2_with fail
          go_ret2
          refine ⟨⟨gR, rfl, hgR, ?_⟩, HB8.out⟩
          have hlen : (ptSort R).length = R.length := List.length_mergeSort R
          rw [← HRW.out]
          exact ⟨A8, c8, by rw [hlen]; exact hV8.out, by rw [hlen]; exact HC8.out, by rw [hlen]; exact hc8, by rw [hlen]; omega⟩
end Go.Proofs.YtbcmmmcbineipaaDoor
set_option linter.unusedVariables false
set_option linter.unusedSimpArgs false
namespace Go.Proofs.YtbcmmmcbineipaaDoor
open Go.RowKit Go.Proofs.YtbcmmmcbineipaaDoorW.PrintWords Go.Proofs.YtbcmmmcbineipaaDoorW.PrintLast Go.Proofs.YtbcmmmcbineipaaDoorW.PrintMore
open Go.Proofs.YtbcmmmcbineipaaDoor.PR
set_option maxHeartbeats 400000 in
theorem build_fails (kv : Array Value) (A : Option Addr) (c : Nat) (l : List S46) (per : Int) (w0 : World) (hr : Kd.C k46 w0 A l.length l) (hc : l.length ≤ c) (hl : l.length ≤ 6) (hs : ∀ e ∈ l, e.f0.size ≤ 140737488354000) (hchk : chk l ≠ 0) :
    Calls Tryd.prog 10 #[.agg kv, .slice A l.length c, .int .i64 per] w0 fun e w' => e = .returned (.tuple #[.pointer none, .int .i64 (chk l)]) ∧ Below w0.heap.size w0 w' := by
  have HB := Lib.hid (below_alloc (Below.refl w0.heap.size w0) (.cells kv 26))
  have HCH := Lib.hid (chk_calls A c l (w0.alloc (.cells kv 26)) (Kd.C_below hr HB.out) hc (by omega) (fun e he => Nat.le_trans (hs e he) (by unfold maxLen; omega)))
  obtain ⟨r, Hr⟩ : ∃ r : Int, Hid (r = chk l) := ⟨_, rfl⟩
  rw [← Hr.out] at HCH hchk ⊢
  clear hr hs
  have hne : (r == 0) = false := by simpa using hchk
  go_enter Tryd.func10, Tryd.ntmps10
  go_wp2_with fail
  refine HCH.out.mono ?_
  rintro e w2 ⟨rfl, hb2⟩
  have HB2 := Lib.hid (HB.out.trans (hb2.mono HB.out.size))
  clear hb2 HB HCH
  go_wp2_with fail
  go_ret2
  exact ⟨rfl, HB2.out⟩
theorem len_calls (g : Nat) (l : List S67) (w : World) (hr : RingAt w g l) :
    Calls Tryd.prog 14 #[.pointer (some ⟨g, 0, none⟩)] w fun e w' => e = .returned (.int .i64 l.length) ∧ Below w.heap.size w w' := by
  obtain ⟨A, c, hg, hC, hc, hl⟩ := hr
  have cg := blk_cell hg 0
  simp only [List.getElem?_toArray, List.getElem?_cons_zero] at cg
  clear hg hC
  go_enter Tryd.func14, Tryd.ntmps14
  go_wp2
  go_ret
  exact ⟨rfl, Below.refl _ _⟩
/-- The i-th point. -/
def pointOf (l : List S67) (i : Int) : Int × ByteArray := if 0 ≤ i ∧ i < l.length then ((l.getD i.toNat ⟨0, ⟨#[]⟩⟩).f0, (l.getD i.toNat ⟨0, ⟨#[]⟩⟩).f1) else (0, ⟨#[]⟩)
set_option maxHeartbeats 400000 in
theorem point_calls (g : Nat) (l : List S67) (i : Int) (w : World) (hr : RingAt w g l) :
    Calls Tryd.prog 15 #[.pointer (some ⟨g, 0, none⟩), .int .i64 i] w fun e w' => e = .returned (.tuple #[.int .u64 (pointOf l i).1, .string (pointOf l i).2]) ∧ Below w.heap.size w w' := by
  obtain ⟨A, c, hg, hC, hc, hl⟩ := hr
  have cg := blk_cell hg 0
  simp only [List.getElem?_toArray, List.getElem?_cons_zero] at cg
  by_cases h0 : i < 0
  · have E : Hid (pointOf l i = (0, ⟨#[]⟩)) := if_neg (by omega)
    have hd : decide (i < 0) = true := decide_eq_true h0
    clear hg hC
    go_enter Tryd.func15, Tryd.ntmps15
    go_wp2_with fail
    go_ret2
    exact ⟨by rw [E.out]; rfl, Below.refl _ _⟩
  · have hd : decide (i < 0) = false := decide_eq_false h0
    by_cases h1 : (l.length : Int) ≤ i
    · have E : Hid (pointOf l i = (0, ⟨#[]⟩)) := if_neg (by omega)
      clear hg hC
      go_enter Tryd.func15, Tryd.ntmps15
      go_wp2_with fail
      go_ret2
      exact ⟨by rw [E.out]; rfl, Below.refl _ _⟩
    · obtain ⟨k, rfl⟩ : ∃ k : Nat, i = k := ⟨i.toNat, by omega⟩
      have hk : k < l.length := by omega
      obtain ⟨ad, rfl, hc0, hc1⟩ := pt_at hC k hk
      obtain ⟨x, Hx⟩ : ∃ x : S67, Hid (x = l[k]) := ⟨l[k], rfl⟩
      rw [← Hx.out] at hc0 hc1
      have E : Hid (pointOf l k = (x.f0, x.f1)) := by
        show _ = _
        rw [pointOf, if_pos (by omega), Int.toNat_natCast, List.getD_eq_getElem?_getD, List.getElem?_eq_getElem hk, Hx.out]
        rfl
      clear hg hC
      go_enter Tryd.func15, Tryd.ntmps15
      go_wp2_with fail
      go_quiet (fail)
      go_wp2_with fail
      go_ret2
      exact ⟨by rw [E.out]; rfl, pw_below_drewN (Below.refl _ _) _⟩
end Go.Proofs.YtbcmmmcbineipaaDoor
