/- How a ring is built: the words. -/
import Derived.Test.YtbcmmmcbineipaaDoorDig
import Derived.Test.YtbcmmmcbineipaaDoorKeyOf
import Derived.Test.YtbcmmmcbineipaaDoorChk
import Derived.Test.YtbcmmmcbineipaaDoorFrom
import Derived.Deep.RegionHeld3
import Derived.Deep.AppendLies
set_option linter.unusedVariables false
set_option linter.unusedSimpArgs false
namespace Go.Proofs.YtbcmmmcbineipaaDoor
open Go.RowKit Go.Proofs.YtbcmmmcbineipaaDoorW.PrintWords Go.Proofs.YtbcmmmcbineipaaDoorW.PrintLast Go.Proofs.YtbcmmmcbineipaaDoorW.PrintMore
open Go.Proofs.YtbcmmmcbineipaaDoor.PR
def greatest (l : List S46) : Int := l.foldl (fun g e => max g e.f1) 1
def perOf (per : Int) : Int := max 1 (min per 256)
def cntOf (p g : Int) (e : S46) : Nat := (max 1 ((p * e.f1) / g)).toNat
def digs (i : Nat) : ByteArray := ⟨(Lib.decDigits i).toArray⟩
def ptOf (kb : List Int) (e : S46) (i : Nat) : S67 := ⟨ssum kb (lbytes [e.f0, ⟨#[35]⟩, digs i]), e.f0⟩
def ptsOf (kb : List Int) (p g : Int) (e : S46) : List S67 := (List.range (cntOf p g e)).map (ptOf kb e)
def rawPts (kb : List Int) (per : Int) (l : List S46) : List S67 := l.flatMap (ptsOf kb (perOf per) (greatest l))
def flat (l : List S67) : List Value := l.flatMap encPt
theorem flat_append (a b : List S67) : flat (a ++ b) = flat a ++ flat b := List.flatMap_append
theorem flat_length (l : List S67) : (flat l).length = l.length * 2 := by
  induction l with
  | nil => rfl
  | cons p l ih =>
    show (encPt p ++ flat l).length = _
    rw [List.length_append, ih]
    simp [encPt]
    omega
theorem flat_get (l : List S67) (k : Nat) (hk : k < l.length) : (flat l)[k * 2]? = some (.int .u64 l[k].f0) ∧ (flat l)[k * 2 + 1]? = some (.string l[k].f1) := by
  induction l generalizing k with
  | nil => simp at hk
  | cons p l ih =>
    cases k with
    | zero => exact ⟨rfl, rfl⟩
    | succ k =>
      have h := ih k (by simpa using hk)
      have e1 : (k + 1) * 2 = k * 2 + 2 := by omega
      rw [e1]
      exact h
theorem greatest_pos (l : List S46) : ∀ g : Int, 1 ≤ g → 1 ≤ l.foldl (fun g e => max g e.f1) g := by
  induction l with
  | nil => intro g h; exact h
  | cons e l ih => intro g h; exact ih _ (Int.le_trans h (Int.le_max_left _ _))
theorem greatest_ge (l : List S46) : ∀ g : Int, g ≤ l.foldl (fun g e => max g e.f1) g ∧ ∀ e ∈ l, e.f1 ≤ l.foldl (fun g e => max g e.f1) g := by
  induction l with
  | nil => intro g; exact ⟨Int.le_refl _, fun e h => absurd h (by simp)⟩
  | cons e l ih =>
    intro g
    obtain ⟨h1, h2⟩ := ih (max g e.f1)
    refine ⟨Int.le_trans (Int.le_max_left _ _) h1, fun x hx => ?_⟩
    rcases List.mem_cons.1 hx with rfl | hx
    · exact Int.le_trans (Int.le_max_right _ _) h1
    · exact h2 x hx
theorem greatest_succ (l : List S46) (k : Nat) (h : k < l.length) : greatest (l.take (k + 1)) = max (greatest (l.take k)) l[k].f1 := by
  unfold greatest
  rw [List.take_succ_eq_append_getElem h, List.foldl_append]
  rfl
theorem cnt_le (p g : Int) (e : S46) (hp : 1 ≤ p) (h1 : 1 ≤ e.f1) (hg : e.f1 ≤ g) : (cntOf p g e : Int) ≤ p ∧ 1 ≤ cntOf p g e := by
  have h : (p * e.f1) / g ≤ p := by
    have h2 : p * e.f1 ≤ p * g := Int.mul_le_mul_of_nonneg_left hg (by omega)
    have h3 : (p * e.f1) / g ≤ (p * g) / g := Int.ediv_le_ediv (by omega) h2
    rw [Int.mul_ediv_cancel _ (by omega)] at h3
    exact h3
  unfold cntOf
  omega
theorem lbytes3 (a b c : ByteArray) : (lbytes [a, b, c]).length = a.size + b.size + c.size := by
  show ([bytesOf a, bytesOf b, bytesOf c].flatten).length = _
  simp only [List.flatten_cons, List.flatten_nil, List.append_nil, List.length_append, bytesOf_length]
  omega
theorem decDigits_small (i : Nat) (h : i < 100) : (Lib.decDigits i).length ≤ 2 := by
  have : ∀ i : Fin 100, (Lib.decDigits i.1).length ≤ 2 := by decide +kernel
  exact this ⟨i, h⟩
theorem sum3_calls (kb : List Int) (hk : kb.length = 16) (a b c : ByteArray) (hs : a.size + b.size + c.size ≤ 140737488355000) (B t : Nat) (w : World) (h : w.heap[B]? = some (.cells #[.string a, .string b, .string c] t (0, 0))) :
    Calls Tryd.prog 23 #[.agg (nums .u8 kb).toArray, .slice (some ⟨B, 0, none⟩) 3 3] w fun e w' => e = .returned (.int .u64 (ssum kb (lbytes [a, b, c]))) ∧ Below w.heap.size w w' := by
  have hr : Kd.C Kd.string w (some ⟨B, 0, none⟩) [a, b, c].length [a, b, c] := by
    refine Kd.C_of_reads (d := ByteArray.empty) ⟨rfl, (by show 3 ≤ _; omega), fun _ => ⟨_, rfl, fun j hj => ?_⟩⟩
    rw [add_at, Nat.zero_add, blk_cell h]
    match j, hj with
    | 0, _ => rfl
    | 1, _ => rfl
    | 2, _ => rfl
  exact ssum_calls kb (some ⟨B, 0, none⟩) 3 [a, b, c] w hk hr (Nat.le_refl _) (by rw [lbytes3]; exact hs) (by show 3 ≤ _; omega)
end Go.Proofs.YtbcmmmcbineipaaDoor
