/- The place of the first point of a number or more. -/
import Derived.Test.YtbcmmmcbineipaaDoorBs
set_option linter.unusedVariables false
set_option linter.unusedSimpArgs false
namespace Go.Proofs.YtbcmmmcbineipaaDoor
open Go.RowKit Go.Proofs.YtbcmmmcbineipaaDoorW.PrintWords Go.Proofs.YtbcmmmcbineipaaDoorW.PrintLast Go.Proofs.YtbcmmmcbineipaaDoorW.PrintMore
open Go.Proofs.YtbcmmmcbineipaaDoor.PR

/-- The least place of a number or more. -/
def lowb (l : List S67) (x : Int) : Nat := (l.takeWhile fun p => decide (p.f0 < x)).length
theorem lowb_of (l : List S67) (x : Int) (k : Nat) (hk : k ≤ l.length) (h1 : ∀ (q : Nat) (hq : q < l.length), q < k → l[q].f0 < x) (h2 : ∀ (q : Nat) (hq : q < l.length), k ≤ q → x ≤ l[q].f0) : lowb l x = k := by
  induction l generalizing k with
  | nil => simp at hk; simp [lowb, hk]
  | cons p l ih =>
    cases k with
    | zero =>
      have := h2 0 (by simp) (by omega)
      simp only [List.getElem_cons_zero] at this
      simp [lowb, List.takeWhile_cons, show ¬ (p.f0 < x) by omega]
    | succ k =>
      have := h1 0 (by simp) (by omega)
      simp only [List.getElem_cons_zero] at this
      have hi := ih k (by simpa using hk) (fun q hq hqk => by have := h1 (q + 1) (by simpa using hq) (by omega); simpa using this) (fun q hq hqk => by have := h2 (q + 1) (by simpa using hq) (by omega); simpa using this)
      unfold lowb at hi ⊢
      rw [List.takeWhile_cons, if_pos (by simpa using this), List.length_cons, hi]
def frm (l : List S67) (x : Int) : Nat := if lowb l x = l.length then 0 else lowb l x
theorem frm_le (l : List S67) (x : Int) : frm l x ≤ l.length := by
  unfold frm lowb
  split
  · omega
  · exact (List.takeWhile_prefix _).length_le
/-- A ring, read. -/
def RingAt (w : World) (g : Nat) (l : List S67) : Prop := ∃ (A : Option Addr) (c : Nat), w.heap[g]? = some (.cells #[.slice A l.length c] 63 (0, 0)) ∧ Kd.C k67 w A l.length l ∧ l.length ≤ c ∧ l.length ≤ 1000000
theorem RingAt.below {w w' : World} {g : Nat} {l : List S67} (h : RingAt w g l) (hb : Below w.heap.size w w') : RingAt w' g l := by
  obtain ⟨A, c, h1, h2, h3, h4⟩ := h
  exact ⟨A, c, blk_below h1 hb, Kd.C_below h2 hb, h3, h4⟩
set_option maxHeartbeats 400000 in
set_option maxRecDepth 100000 in
theorem from_calls (g : Nat) (l : List S67) (x : Int) (w0 : World) (hr : RingAt w0 g l) (hso : ∀ (a b : Nat) (ha : a ≤ b) (hb : b < l.length), l[a].f0 ≤ l[b].f0) :
    Calls Tryd.prog 30 #[.pointer (some ⟨g, 0, none⟩), .int .u64 x] w0 fun e w' => e = .returned (.int .i64 (frm l x)) ∧ Below w0.heap.size w0 w' := by
  obtain ⟨A, c, hg, hC, hc, hl⟩ := hr
  have HG := Lib.hid hg
  have HC := Lib.hid hC
  have HO := Lib.hid hso
  have cg := blk_cell hg 0
  simp only [List.getElem?_toArray, List.getElem?_cons_zero] at cg
  clear hg hC hso
  go_enter Tryd.func30, Tryd.ntmps30
  go_wp2_with fail
  refine (bs_calls A c l x _ HC.out hc hl HO.out).mono ?_
  rintro e w1 ⟨⟨k, rfl, hk, h1, h2⟩, hb⟩
  have hlo := lowb_of l x k hk h1 h2
  have HB := Lib.hid hb
  have HG1 := blk_below HG.out hb
  have cg1 := blk_cell HG1 0
  simp only [List.getElem?_toArray, List.getElem?_cons_zero] at cg1
  clear cg hb h1 h2
  by_cases he : k = l.length
  · have E : Hid (((frm l x : Nat) : Int) = 0) := by
      show _ = _
      rw [frm, if_pos (by omega)]; rfl
    have hd : ((k : Int) == l.length) = true := by simp; omega
    go_wp2_with fail
    go_ret
    exact ⟨by rw [E.out]; rfl, HB.out⟩
  · have E : Hid (((frm l x : Nat) : Int) = k) := by
      show _ = _
      rw [frm, if_neg (by omega), hlo]
    have hd : ((k : Int) == l.length) = false := by simp; omega
    go_wp2_with fail
    go_ret
    exact ⟨by rw [E.out]; rfl, HB.out⟩
end Go.Proofs.YtbcmmmcbineipaaDoor
