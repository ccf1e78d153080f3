/- The law RingLittle holds for every input: without one entry each number is answered by whom it was, or by the next one. Condition: the package variables that the row lists read as the program's text lays them. -/
import Derived.Test.YtbcmmmcbineipaaDoorMg
import Derived.Test.YtbcmmmcbineipaaDoorRowA
import Derived.Lib.SmallJoins
namespace Go.Proofs.YtbcmmmcbineipaaDoor.Last
open Go.ChangeShapes Go.WideShapes Go.ChangeAt Go.RowKit Go.Deep Go.Joins
open Go.ChangeMaps (open_string shut_string)
open Go.Proofs.YtbcmmmcbineipaaDoorW.PrintWords Go.Proofs.YtbcmmmcbineipaaDoorW.PrintLast Go.Proofs.YtbcmmmcbineipaaDoorW.PrintMore
open Go.Proofs.YtbcmmmcbineipaaDoor.PR

set_option maxRecDepth 100000 in
theorem liftedL (os : Os) (started : os.Started) (H : Type) (enc : TypeId × Value → H) :
    ReturnsInHanded {} Tryd.checked os 6 .any (fun w args => (Rows.ringLittleSpec.pre enc Tryd.prog Tryd.f6 [] false w args ∧ laidMetH Tryd.prog laid3 w) ∧ sizedMet enc Tryd.prog Tryd.f6 (OpenSpec.ofChange Rows.ringLittleSpec) false w args)
      (Rows.ringLittleSpec.post enc Tryd.prog Tryd.f6 false true false false) := by
  refine returnsInHanded_of_change_and (C := Tryd.checked) (X := fun w _ => laidMetH Tryd.prog laid3 w) (fun _ _ _ hh h => h.of_heap hh) own started (by kernel_rfl) Tryd.func6
    (ChangeSpec.witness_shaped (enc := enc) (C := Tryd.checked) (os := os) (X := fun w _ => laidMetH Tryd.prog laid3 w) false (World.doorLaid Tryd.prog 400 os) #[.agg #[.string ByteArray.empty, .slice none 0 0, .int .i64 0, .int .u64 0]] 8 rfl (World.shaped_of_RefB (by kernel_rfl) (by kernel_rfl)) (by kernel_rfl) (by kernel_rfl) (by kernel_rfl) (door_met os _)) ?_
  intro W base args ds gs before hval0 hW _ _ hL _
  have hval : ∀ (j : Nat) t v, Tryd.f6.params[j]? = some t → args[j]? = some v → Value.okWide Tryd.prog W .any base t v := hval0
  have hW' := hW
  obtain ⟨p, q, hA0, hV, rfl, hfz, hnd⟩ := hW
  have hA : DataW.TrodAll enc Tryd.prog W 0 (fun _ => true) true Tryd.f6.params.toList args.toList ds p := hA0
  rw [Tryd.params6] at hA hval
  obtain ⟨v0, vs0, d0, ds0, p0, q0, hargs, rfl, rfl, h0, r0⟩ := trodAll_cons hA
  obtain ⟨rfl, rfl, rfl⟩ := trodAll_nil r0
  obtain rfl : args = #[v0] := by cases args; simp_all
  obtain ⟨rfl, rfl⟩ := trodVars_none hV
  have k0 := h0
  have lt0 : ∀ x ∈ p0, x.block < W.heap.size := by obtain ⟨m, hm⟩ := k0; exact DataW.trod_lt m _ _ _ hm
  obtain ⟨v0, v1, v2, v3, y0, y1, y2, y3, n, rfl, _, _, t0, t1, t2, t3⟩ := open_agg4 Tryd.underlying56 (by kernel_rfl) (by kernel_rfl) (hval 0 56 v0 rfl rfl) h0
  obtain ⟨s, e0, _, _⟩ := DataW.trod_string Tryd.underlying9 t0
  obtain ⟨A, cap, l, rfl, hlc, hl⟩ := ents_of_trod t1
  obtain ⟨z, e2, _, wz⟩ := DataW.trod_int Tryd.underlying3 t2
  obtain ⟨x, e3, _, _⟩ := DataW.trod_int Tryd.underlying39 t3
  simp only [List.cons.injEq, and_true] at e0 e2 e3
  subst e0 e2 e3
  clear hA0 hval0
  have hz : -9223372036854775808 ≤ z ∧ z ≤ 9223372036854775807 := by
    simp [Lit.wf, IntKind.min, IntKind.max, IntKind.bits, IntKind.signed] at wz
    omega
  refine (little_calls s A cap l z x W hl hlc hz).mono fun e W' ⟨he, bel⟩ => ?_
  subst he
  exact ⟨_, rfl, _, _, _, [], _, [], hW', trodAll_mk1 (shut_bool Tryd.underlying4 _), (trodAll_cons_mk (Below.trod laidOut (by kernel_rfl) (of_decide_eq_true (by kernel_rfl)) k0 bel lt0) trodAll_mk0), rfl, bel.frame _, fun h => by cases h⟩
theorem overL : Rows.RingLittleSaid :=
  OpenClaim.holds_of_wide 6 Tryd.f6 rfl rfl rfl rfl rfl rfl rfl ⟨rfl, rfl, rfl, rfl, rfl⟩ rfl rfl rfl rfl rfl (by kernel_rfl) Tryd.func6 (by kernel_rfl)
    (of_decide_eq_true (by kernel_rfl)) (by unfold Func.isWrapper; first | (rw [if_pos (by decide +kernel)]; kernel_rfl) | (rw [if_neg (by decide +kernel)]; exact ⟨rfl, rfl⟩))
    (fun os started H enc _ => liftedL os started H enc)
end Go.Proofs.YtbcmmmcbineipaaDoor.Last
namespace Go.Proofs.YtbcmmmcbineipaaDoor
/-- The tied card of RingLittle. -/
theorem ringLittle_card : Rows.RingLittleCardSaid :=
  Claim7.holds_tied_plain_at .later [] [.data, .data, .data] true (true, "61fd82f5d1609ce8fff0a8176b91aad95c639ddbb436b490f8dc165dc6ad300f") false
    Last.overL (fun _ h => by cases h) (by kernel_rfl) (fun _ h => by cases h) ringLittle_row_tie rfl ⟨rfl, rfl⟩ (by kernel_rfl) rfl
    (fun f fn hf hfn => by
      obtain rfl : f = 6 := Option.some.inj ((show Tryd.prog.funcNamed "steward/stewardlaw19.RingLittle" = some 6 by kernel_rfl).symm.trans hf) |>.symm
      obtain rfl : fn = Tryd.f6 := (Option.some.inj (Tryd.func6.symm.trans hfn)).symm
      exact ⟨by kernel_rfl, fun j t ht => by
        rw [Tryd.params6] at ht
        have hm : t ∈ [56] := by simpa using Array.mem_of_getElem? ht
        have hall : ([56].all fun u => !Tryd.prog.wantsStandIn u) = true := by kernel_rfl
        exact (show Tryd.prog.wantsStandIn t = false by simpa using List.all_eq_true.1 hall t hm)⟩)
    (by kernel_rfl)
#print axioms ringLittle_card
end Go.Proofs.YtbcmmmcbineipaaDoor
