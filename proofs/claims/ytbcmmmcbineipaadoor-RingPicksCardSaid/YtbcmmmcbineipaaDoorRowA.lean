/- What the rows of the ring's laws share: entries, read. -/
import Derived.Test.YtbcmmmcbineipaaDoorMe
import Derived.Test.YtbcmmmcbineipaaDoorCards
import Derived.Test.YtbcmmmcbineipaaDoorTie
import Derived.ProofKit
import Derived.LaidMore
import Derived.OpenShut
import Derived.ShutString
import Derived.ChangeOld
import Derived.Stop.Joined
import Derived.Deep.SlicePairs
import Derived.SevenTiedAt
namespace Go.Proofs.YtbcmmmcbineipaaDoor.Last
open Go.ChangeShapes Go.WideShapes Go.ChangeAt Go.RowKit Go.Deep
open Go.ChangeMaps (open_string shut_string)
open Go.Proofs.YtbcmmmcbineipaaDoorW.PrintWords Go.Proofs.YtbcmmmcbineipaaDoorW.PrintLast Go.Proofs.YtbcmmmcbineipaaDoorW.PrintMore
open Go.Proofs.YtbcmmmcbineipaaDoor.PR

theorem own : ownKnob Tryd.prog.godebug = none := by kernel_rfl
theorem laidOut : laidOutB Tryd.prog = true := by kernel_rfl
def laid3 : List (String × DataW Unit) := [("math/bits.deBruijn32tab", Rows.laid_math_bits_deBruijn32tab), ("math/bits.deBruijn64tab", Rows.laid_math_bits_deBruijn64tab), ("internal/strconv.uint64pow10", Rows.laid_internal_strconv_uint64pow10)]
instance instEnt : Inhabited S46 := ⟨⟨ByteArray.empty, 0⟩⟩
/-- The door's own heap meets the condition. -/
theorem door_met (os : Os) (args : Array Value) : laidMetH Tryd.prog laid3 ((World.doorLaid Tryd.prog 400 os).forCall (fun _ _ => 0) ⟨#[], args, []⟩).memory :=
  laidMetH_of_parts3 (fuel := 8) (laidMet_of_run' 8 (by kernel_rfl) (by kernel_rfl)) (by kernel_rfl) (by kernel_rfl)

theorem ents_open {w : World} {a : Addr} {n : Nat} {l : List S46} (hn : l.length = n) (hm : n ≤ 9223372036854775807) (hc : ∀ (k : Nat) (hk : k < l.length), w.cell? (a.add (k * 2)) = some (.string l[k].f0) ∧ w.cell? (a.add (k * 2 + 1)) = some (.int .i64 l[k].f1)) : Kd.C k46 w (some a) l.length l := by
  refine ⟨rfl, by omega, fun hn => ⟨_, rfl, fun j p hj => ?_⟩⟩
  obtain ⟨hj1, rfl⟩ := List.getElem?_eq_some_iff.1 hj
  obtain ⟨h0, h1⟩ := hc j hj1
  refine ⟨[.string l[j].f0, .int .i64 l[j].f1], rfl, ⟨[.string l[j].f0], [.int .i64 l[j].f1], rfl, rfl, rfl⟩, fun i u hu => ?_⟩
  rw [show k46.sz = 2 from rfl]
  match i, hu with
  | 0, hu => rw [Nat.add_zero, h0]; exact hu
  | 1, hu => rw [h1]; exact hu
/-- A list of entries that reads as data. -/
theorem ents_of_trod {H : Type} {enc : TypeId × Value → H} {W : World} {fuel : Nat} {v : Value} {y : DataW H × List MemPlace} (hf : DataW.trod enc Tryd.prog W 0 (fun _ => true) true fuel 22 [v] = some y) :
    ∃ (A : Option Addr) (cap : Nat) (l : List S46), v = .slice A l.length cap ∧ l.length ≤ cap ∧ Kd.C k46 W A l.length l := by
  rcases open_slice_pairs Tryd.underlying22 Tryd.underlying46 (by kernel_rfl) rfl rfl (by kernel_rfl) (by kernel_rfl) hf with ⟨hcs, _⟩ | ⟨x, len, cap, m, n, V0, V1, D0, D1, P0, P1, hcs, _, hl, hm, hmm, _, hcell⟩
  · simp only [List.cons.injEq, and_true] at hcs
    exact ⟨none, 0, [], hcs, Nat.le_refl _, ⟨rfl, by show 0 ≤ _; omega, fun h => absurd h (by simp)⟩⟩
  · simp only [List.cons.injEq, and_true] at hcs
    have hlm : len ≤ m := by rw [hmm]; split <;> omega
    have each : ∀ i, i < len → ∃ e : S46, W.cell? (x.add (i * 2)) = some (.string e.f0) ∧ W.cell? (x.add (i * 2 + 1)) = some (.int .i64 e.f1) := by
      intro i hi
      obtain ⟨c0, c1, t0, t1⟩ := hcell i (by omega)
      obtain ⟨s, e0, _, _⟩ := DataW.trod_string Tryd.underlying9 t0
      obtain ⟨z, e1, _, _⟩ := DataW.trod_int Tryd.underlying3 t1
      simp only [List.cons.injEq, and_true] at e0 e1
      exact ⟨⟨s, z⟩, by rw [c0, e0], by rw [c1, e1]⟩
    obtain ⟨f, hf2⟩ := choose_lt each
    have hlen : ((List.range len).map f).length = len := by simp
    refine ⟨some x, cap, (List.range len).map f, by rw [hlen, hcs], by rw [hlen]; exact hl, ?_⟩
    refine ents_open (n := len) hlen (by unfold maxLen at hm; omega) (fun k hk => ?_)
    have hk' : k < len := by simpa using hk
    simpa using hf2 k hk'
end Go.Proofs.YtbcmmmcbineipaaDoor.Last
