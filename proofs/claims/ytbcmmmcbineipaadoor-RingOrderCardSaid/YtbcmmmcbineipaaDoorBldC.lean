/- A ring that may not be made; how many points; the i-th one. -/
import Derived.Test.YtbcmmmcbineipaaDoorBldB
set_option linter.unusedVariables false
set_option linter.unusedSimpArgs false
namespace Go.Proofs.YtbcmmmcbineipaaDoor
open Go.RowKit Go.Proofs.YtbcmmmcbineipaaDoorW.PrintWords Go.Proofs.YtbcmmmcbineipaaDoorW.PrintLast Go.Proofs.YtbcmmmcbineipaaDoorW.PrintMore
open Go.Proofs.YtbcmmmcbineipaaDoor.PR
set_option maxHeartbeats 400000 in
theorem build_fails (kv : Array Value) (A : Option Addr) (c : Nat) (l : List S46) (per : Int) (w0 : World) (hr : Kd.C k46 w0 A l.length l) (hc : l.length ≤ c) (hl : l.length ≤ 6) (hs : ∀ e ∈ l, e.f0.size ≤ 140737488354000) (hchk : chk l ≠ 0) :
    Calls Tryd.prog 10 #[.agg kv, .slice A l.length c, .int .i64 per] w0 fun e w' => e = .returned (.tuple #[.pointer none, .int .i64 (chk l)]) ∧ Below w0.heap.size w0 w' := by
  have HB := Lib.hid (below_alloc (Below.refl w0.heap.size w0) (.cells kv 26))
  have HCH := Lib.hid (chk_calls A c l (w0.alloc (.cells kv 26)) (Kd.C_below hr HB.out) hc (by omega) (fun e he => Nat.le_trans (hs e he) (by unfold maxLen; omega)))
  obtain ⟨r, Hr⟩ : ∃ r : Int, Hid (r = chk l) := ⟨_, rfl⟩
  rw [← Hr.out] at HCH hchk ⊢
  clear hr hs
  have hne : (r == 0) = false := by simpa using hchk
  go_enter Tryd.func10, Tryd.ntmps10
  go_wp2_with fail
  refine HCH.out.mono ?_
  rintro e w2 ⟨rfl, hb2⟩
  have HB2 := Lib.hid (HB.out.trans (hb2.mono HB.out.size))
  clear hb2 HB HCH
  go_wp2_with fail
  go_ret2
  exact ⟨rfl, HB2.out⟩
theorem len_calls (g : Nat) (l : List S67) (w : World) (hr : RingAt w g l) :
    Calls Tryd.prog 14 #[.pointer (some ⟨g, 0, none⟩)] w fun e w' => e = .returned (.int .i64 l.length) ∧ Below w.heap.size w w' := by
  obtain ⟨A, c, hg, hC, hc, hl⟩ := hr
  have cg := blk_cell hg 0
  simp only [List.getElem?_toArray, List.getElem?_cons_zero] at cg
  clear hg hC
  go_enter Tryd.func14, Tryd.ntmps14
  go_wp2
  go_ret
  exact ⟨rfl, Below.refl _ _⟩
/-- The i-th point. -/
def pointOf (l : List S67) (i : Int) : Int × ByteArray := if 0 ≤ i ∧ i < l.length then ((l.getD i.toNat ⟨0, ⟨#[]⟩⟩).f0, (l.getD i.toNat ⟨0, ⟨#[]⟩⟩).f1) else (0, ⟨#[]⟩)
set_option maxHeartbeats 400000 in
theorem point_calls (g : Nat) (l : List S67) (i : Int) (w : World) (hr : RingAt w g l) :
    Calls Tryd.prog 15 #[.pointer (some ⟨g, 0, none⟩), .int .i64 i] w fun e w' => e = .returned (.tuple #[.int .u64 (pointOf l i).1, .string (pointOf l i).2]) ∧ Below w.heap.size w w' := by
  obtain ⟨A, c, hg, hC, hc, hl⟩ := hr
  have cg := blk_cell hg 0
  simp only [List.getElem?_toArray, List.getElem?_cons_zero] at cg
  by_cases h0 : i < 0
  · have E : Hid (pointOf l i = (0, ⟨#[]⟩)) := if_neg (by omega)
    have hd : decide (i < 0) = true := decide_eq_true h0
    clear hg hC
    go_enter Tryd.func15, Tryd.ntmps15
    go_wp2_with fail
    go_ret2
    exact ⟨by rw [E.out]; rfl, Below.refl _ _⟩
  · have hd : decide (i < 0) = false := decide_eq_false h0
    by_cases h1 : (l.length : Int) ≤ i
    · have E : Hid (pointOf l i = (0, ⟨#[]⟩)) := if_neg (by omega)
      clear hg hC
      go_enter Tryd.func15, Tryd.ntmps15
      go_wp2_with fail
      go_ret2
      exact ⟨by rw [E.out]; rfl, Below.refl _ _⟩
    · obtain ⟨k, rfl⟩ : ∃ k : Nat, i = k := ⟨i.toNat, by omega⟩
      have hk : k < l.length := by omega
      obtain ⟨ad, rfl, hc0, hc1⟩ := pt_at hC k hk
      obtain ⟨x, Hx⟩ : ∃ x : S67, Hid (x = l[k]) := ⟨l[k], rfl⟩
      rw [← Hx.out] at hc0 hc1
      have E : Hid (pointOf l k = (x.f0, x.f1)) := by
        show _ = _
        rw [pointOf, if_pos (by omega), Int.toNat_natCast, List.getD_eq_getElem?_getD, List.getElem?_eq_getElem hk, Hx.out]
        rfl
      clear hg hC
      go_enter Tryd.func15, Tryd.ntmps15
      go_wp2_with fail
      go_quiet (fail)
      go_wp2_with fail
      go_ret2
      exact ⟨by rw [E.out]; rfl, pw_below_drewN (Below.refl _ _) _⟩
end Go.Proofs.YtbcmmmcbineipaaDoor
