/- The law RewriteHops holds for every input: what always is hop by hop, and what Connection names, falls away: as the reference says. Condition: the package variables that the row lists read as the program's text lays them. -/
import Derived.Test.YtaebjpfgjgnpoaaDoorMra
import Derived.Test.YtaebjpfgjgnpoaaDoorHz
import Derived.Lay
namespace Go.Proofs.YtaebjpfgjgnpoaaDoor.Last
open Go.ChangeShapes Go.WideShapes Go.ChangeAt Go.RowKit Go.Deep
open Go.ChangeMaps (open_string shut_string)
open Go.Proofs.YtaebjpfgjgnpoaaDoorW.PrintWords Go.Proofs.YtaebjpfgjgnpoaaDoorW.PrintLast Go.Proofs.YtaebjpfgjgnpoaaDoorW.PrintMore
open Go.Proofs.YtaebjpfgjgnpoaaDoor.PR

theorem own : ownKnob Tryd.prog.godebug = none := by kernel_rfl
theorem laidOut : laidOutB Tryd.prog = true := by kernel_rfl
instance instFld : Inhabited S40 := ⟨⟨ByteArray.empty, ByteArray.empty⟩⟩
theorem flds_open {w : World} {a : Addr} {n : Nat} {l : List S40} (hn : l.length = n) (hm : n ≤ 9223372036854775807) (hc : ∀ (k : Nat) (hk : k < l.length), w.cell? (a.add (k * 2)) = some (.string l[k].f0) ∧ w.cell? (a.add (k * 2 + 1)) = some (.string l[k].f1)) : Kd.C k40 w (some a) l.length l := by
  refine ⟨rfl, by omega, fun hn => ⟨_, rfl, fun j p hj => ?_⟩⟩
  obtain ⟨hj1, rfl⟩ := List.getElem?_eq_some_iff.1 hj
  obtain ⟨h0, h1⟩ := hc j hj1
  refine ⟨[.string l[j].f0, .string l[j].f1], rfl, ⟨[.string l[j].f0], [.string l[j].f1], rfl, rfl, rfl⟩, fun i u hu => ?_⟩
  rw [show k40.sz = 2 from rfl]
  match i, hu with
  | 0, hu => rw [Nat.add_zero, h0]; exact hu
  | 1, hu => rw [h1]; exact hu

set_option maxRecDepth 100000 in
theorem lifted (os : Os) (started : os.Started) (H : Type) (enc : TypeId × Value → H) :
    ReturnsInHanded {} Tryd.checked os 3 .any (fun w args => (Rows.rewriteHopsSpec.pre enc Tryd.prog Tryd.f3 [] false w args ∧ laidMetH Tryd.prog laid7 w) ∧ sizedMet enc Tryd.prog Tryd.f3 (OpenSpec.ofChange Rows.rewriteHopsSpec) false w args)
      (Rows.rewriteHopsSpec.post enc Tryd.prog Tryd.f3 false true false false) := by
  refine returnsInHanded_of_change_and (C := Tryd.checked) (X := fun w _ => laidMetH Tryd.prog laid7 w) (fun _ _ _ hh h => h.of_heap hh) own started (by kernel_rfl) Tryd.func3
    (ChangeSpec.witness_shaped (enc := enc) (C := Tryd.checked) (os := os) (X := fun w _ => laidMetH Tryd.prog laid7 w) false (World.laidAll Tryd.prog os laid7) #[.slice none 0 0] 8 (World.laidAll_os _ _ _) (World.shaped_of_ZipB (by kernel_rfl) (by kernel_rfl)) (by kernel_rfl) (by kernel_rfl) (by kernel_rfl)
      (by rw [MakeChecks.laidMetH_plain _ _ _ (by kernel_rfl)]; exact laidMet_laidAll _ (by kernel_rfl) (by kernel_rfl))) ?_
  intro W base args ds gs before hval0 hW _ _ hL _
  have hval : ∀ (j : Nat) t v, Tryd.f3.params[j]? = some t → args[j]? = some v → Value.okWide Tryd.prog W .any base t v := hval0
  have hW' := hW
  obtain ⟨p, q, hA0, hV, rfl, hfz, hnd⟩ := hW
  have hA : DataW.TrodAll enc Tryd.prog W 0 (fun _ => true) true Tryd.f3.params.toList args.toList ds p := hA0
  rw [Tryd.params3] at hA hval
  obtain ⟨v1, vs1, d1, ds1, p1, q1, hargs, rfl, rfl, h1, r1⟩ := trodAll_cons hA
  obtain ⟨rfl, rfl, rfl⟩ := trodAll_nil r1
  obtain rfl : args = #[v1] := by cases args; simp_all
  obtain ⟨rfl, rfl⟩ := trodVars_none hV
  obtain ⟨A, len, cap, rfl⟩ := okWide_slice Tryd.underlying22 (hval 0 22 v1 rfl rfl)
  have k1 := h1
  have lt1 : ∀ x ∈ p1, x.block < W.heap.size := by obtain ⟨m, hm⟩ := k1; exact DataW.trod_lt m _ _ _ hm
  obtain ⟨l, hll, hlc, hl⟩ : ∃ l : List S40, l.length = len ∧ len ≤ cap ∧ Kd.C k40 W A l.length l := by
    obtain ⟨fuel, hf⟩ := h1
    rcases open_slice_pairs Tryd.underlying22 Tryd.underlying40 (by kernel_rfl) rfl rfl (by kernel_rfl) (by kernel_rfl) hf with ⟨hcs, _⟩ | ⟨x, l, c, m, n, V0, V1, D0, D1, P0, P1, hcs, _, hl, hm, hmm, _, hcell⟩
    · simp [Value.cells] at hcs
      obtain ⟨rfl, rfl, rfl⟩ := hcs
      exact ⟨[], rfl, Nat.le_refl _, ⟨rfl, by show 0 ≤ _; omega, fun h => absurd h (by simp)⟩⟩
    · simp [Value.cells] at hcs
      obtain ⟨rfl, rfl, rfl⟩ := hcs
      have hlm : len ≤ m := by rw [hmm]; split <;> omega
      have each : ∀ i, i < len → ∃ e : S40, W.cell? (x.add (i * 2)) = some (.string e.f0) ∧ W.cell? (x.add (i * 2 + 1)) = some (.string e.f1) := by
        intro i hi
        obtain ⟨c0, c1, t0, t1⟩ := hcell i (by omega)
        obtain ⟨s, e0, _, _⟩ := DataW.trod_string Tryd.underlying9 t0
        obtain ⟨z, e1, _, _⟩ := DataW.trod_string Tryd.underlying9 t1
        simp only [List.cons.injEq, and_true] at e0 e1
        exact ⟨⟨s, z⟩, by rw [c0, e0], by rw [c1, e1]⟩
      obtain ⟨f, hf2⟩ := choose_lt each
      refine ⟨(List.range len).map f, by simp, hl, ?_⟩
      refine flds_open (n := len) (by simp) (by unfold maxLen at hm; omega) (fun k hk => ?_)
      have hk' : k < len := by simpa using hk
      simpa using hf2 k hk'
  clear hA0 hval0
  subst hll
  obtain ⟨o1, o2, o3⟩ := of_laid hL
  refine (rewriteHops_calls A cap l W hl hlc o1 o2 o3).mono fun e W' ⟨he, bel⟩ => ?_
  subst he
  exact ⟨_, rfl, _, _, _, [], _, [], hW', trodAll_mk1 (shut_bool Tryd.underlying4 _), (trodAll_cons_mk (Below.trod laidOut (by kernel_rfl) (of_decide_eq_true (by kernel_rfl)) k1 bel lt1) trodAll_mk0), rfl, bel.frame _, fun h => by cases h⟩
theorem over : Rows.RewriteHopsSaid :=
  OpenClaim.holds_of_wide 3 Tryd.f3 rfl rfl rfl rfl rfl rfl rfl ⟨rfl, rfl, rfl, rfl, rfl⟩ rfl rfl rfl rfl rfl (by kernel_rfl) Tryd.func3 (by kernel_rfl)
    (of_decide_eq_true (by kernel_rfl)) (by unfold Func.isWrapper; first | (rw [if_pos (by decide +kernel)]; kernel_rfl) | (rw [if_neg (by decide +kernel)]; exact ⟨rfl, rfl⟩))
    (fun os started H enc _ => lifted os started H enc)
end Go.Proofs.YtaebjpfgjgnpoaaDoor.Last
namespace Go.Proofs.YtaebjpfgjgnpoaaDoor
/-- The tied card of RewriteHops. -/
theorem rewriteHops_card : Rows.RewriteHopsCardSaid :=
  Claim7.holds_tied_plain_at .later [] [.data, .data, .data, .data, .data, .widerDeep, .pinned] true (true, "1a2cb35e851c0e8f98602f83267b75966953cd4dfd098a8edcffc8e19205ed8a") false
    Last.over (fun _ h => by cases h) (by kernel_rfl) (fun _ h => by cases h) rewriteHops_row_tie rfl ⟨rfl, rfl⟩ (by kernel_rfl) rfl
    (fun f fn hf hfn => by
      obtain rfl : f = 3 := Option.some.inj ((show Tryd.prog.funcNamed "steward/stewardlaw12.RewriteHops" = some 3 by kernel_rfl).symm.trans hf) |>.symm
      obtain rfl : fn = Tryd.f3 := (Option.some.inj (Tryd.func3.symm.trans hfn)).symm
      exact ⟨by kernel_rfl, fun j t ht => by
        rw [Tryd.params3] at ht
        have hm : t ∈ [22] := by simpa using Array.mem_of_getElem? ht
        have hall : ([22].all fun u => !Tryd.prog.wantsStandIn u) = true := by kernel_rfl
        exact (show Tryd.prog.wantsStandIn t = false by simpa using List.all_eq_true.1 hall t hm)⟩)
    (by kernel_rfl)
#print axioms rewriteHops_card
end Go.Proofs.YtaebjpfgjgnpoaaDoor
