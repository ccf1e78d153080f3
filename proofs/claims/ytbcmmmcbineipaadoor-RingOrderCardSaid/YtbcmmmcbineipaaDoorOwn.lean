/- Entries, copied. -/
import Derived.Test.YtbcmmmcbineipaaDoorBldB
set_option linter.unusedVariables false
set_option linter.unusedSimpArgs false
namespace Go.Proofs.YtbcmmmcbineipaaDoor
open Go.RowKit Go.Proofs.YtbcmmmcbineipaaDoorW.PrintWords Go.Proofs.YtbcmmmcbineipaaDoorW.PrintLast Go.Proofs.YtbcmmmcbineipaaDoorW.PrintMore
open Go.Proofs.YtbcmmmcbineipaaDoor.PR
def encE (e : S46) : List Value := [.string e.f0, .int .i64 e.f1]
def flatE (l : List S46) : List Value := l.flatMap encE
theorem flatE_append (a b : List S46) : flatE (a ++ b) = flatE a ++ flatE b := List.flatMap_append
theorem flatE_get (l : List S46) (k : Nat) (hk : k < l.length) : (flatE l)[k * 2]? = some (.string l[k].f0) ∧ (flatE l)[k * 2 + 1]? = some (.int .i64 l[k].f1) := by
  induction l generalizing k with
  | nil => simp at hk
  | cons p l ih =>
    cases k with
    | zero => exact ⟨rfl, rfl⟩
    | succ k =>
      have h := ih k (by simpa using hk)
      have e1 : (k + 1) * 2 = k * 2 + 2 := by omega
      rw [e1]
      exact h
theorem ents_reads {w : World} {g : Nat} {l : List S46} (hl : l.length ≤ 9223372036854775807) (hc : ∀ (k : Nat) (hk : k < l.length), w.cell? ⟨g, k * 2, none⟩ = some (.string l[k].f0) ∧ w.cell? ⟨g, k * 2 + 1, none⟩ = some (.int .i64 l[k].f1)) :
    Kd.C k46 w (some ⟨g, 0, none⟩) l.length l := by
  refine ⟨rfl, hl, fun hn => ⟨_, rfl, fun j p hj => ?_⟩⟩
  obtain ⟨hj1, rfl⟩ := List.getElem?_eq_some_iff.1 hj
  obtain ⟨h0, h1⟩ := hc j hj1
  refine ⟨[.string l[j].f0, .int .i64 l[j].f1], rfl, ⟨[.string l[j].f0], [.int .i64 l[j].f1], rfl, rfl, rfl⟩, fun i u hu => ?_⟩
  rw [show k46.sz = 2 from rfl, add_at, Nat.zero_add]
  match i, hu with
  | 0, hu => rw [Nat.add_zero, h0]; exact hu
  | 1, hu => rw [h1]; exact hu
theorem own_ents {w : World} {base t n : Nat} {v : Value} {l : List S46} (h : w.ownsRow base t 2 v n (flatE l)) (hn : n = l.length) : ∃ A c, v = .slice A l.length c ∧ l.length ≤ c ∧ Kd.C k46 w A l.length l := by
  subst hn
  rcases h.2 with ⟨rfl, h0⟩ | ⟨g, cap, cur, rfl, hbg, hg, hnc, hcm, hcs, htake⟩
  · obtain rfl : l = [] := List.eq_nil_of_length_eq_zero h0
    exact ⟨none, 0, rfl, Nat.le_refl _, ⟨rfl, by show 0 ≤ _; omega, fun h => absurd h (by simp)⟩⟩
  · have hcell : ∀ j, j < l.length * 2 → w.cell? ⟨g, j, none⟩ = (flatE l)[j]? := fun j hj => by
      rw [cell_of_row w g j cur t (0, 0) hg, ← htake, List.getElem?_take, if_pos hj, Array.getElem?_toList]
    refine ⟨_, cap, rfl, hnc, ents_reads (by unfold maxLen at hcm; omega) (fun k hk => ?_)⟩
    rw [hcell _ (by omega), hcell _ (by omega)]
    exact flatE_get l k hk
theorem info58 : (Tryd.prog.info? 58).map (fun i => (i.zero, i.size, i.bytes)) = some (some (.agg #[.string ⟨#[]⟩, .int .i64 0]), 2, 24) := by kernel_rfl
theorem info46 : (Tryd.prog.info? 46).map (fun i => (i.zero, i.size, i.bytes)) = some (some (.agg #[.string ⟨#[]⟩, .int .i64 0]), 2, 24) := by kernel_rfl

set_option maxHeartbeats 400000 in
set_option maxRecDepth 100000 in
theorem own_calls (A : Option Addr) (c : Nat) (l : List S46) (w0 : World) (hr : Kd.C k46 w0 A l.length l) (hc : l.length ≤ c) (hl : l.length ≤ 1000000) :
    Calls Tryd.prog 11 #[.slice A l.length c] w0 fun e w' => (∃ A' c', e = .returned (.slice A' l.length c') ∧ l.length ≤ c' ∧ Kd.C k46 w' A' l.length l) ∧ Below w0.heap.size w0 w' := by
  have HR := Lib.hid hr
  clear hr
  obtain ⟨i0, hi0, hz0, hz1, hz2⟩ := info_parts info58
  go_enter Tryd.func11, Tryd.ntmps11
  go_wp2_with fail
  go_loopw [3, 8] (fun v i wr => ∃ k : Nat, k ≤ l.length ∧ i = .int .i64 k ∧ Hid (wr.ownsRow w0.heap.size 58 2 v k (flatE (l.take k))) ∧ Hid (Below w0.heap.size w0 wr)) (fun _ i _ => l.length - (intOf i).toNat)
  case atStart => exact ⟨0, Nat.zero_le _, rfl, World.ownsRow_nil _ _ _ _, Below.refl _ _⟩
  case round =>
    obtain ⟨k, hk, rfl, HO, HB⟩ := hrel
    by_cases hlt : k < l.length
    · obtain ⟨ad, rfl, hc0, hc1⟩ := e46_at (Kd.C_below HR.out HB.out) k hlt
      obtain ⟨x, Hx⟩ : ∃ x : S46, Hid (x = l[k]) := ⟨l[k], rfl⟩
      rw [← Hx.out] at hc0 hc1
      have hsz := HB.out.size
      have hn9 : k + 1 ≤ maxLen := by unfold maxLen; omega
      have hn10 : (k + 1) * 24 ≤ 140737488355328 := by omega
      have hfl : flatE (l.take k) ++ [Value.string x.f0, Value.int .i64 x.f1] = flatE (l.take (k + 1)) := by
        rw [List.take_succ_eq_append_getElem hlt, flatE_append, ← Hx.out]
        rfl
      have HFL := Lib.hid hfl
      clear hfl
      have hnb := blk_next wr (.cells #[Value.string x.f0, Value.int .i64 x.f1] 46) (.cells #[Value.string x.f0, Value.int .i64 x.f1] 58)
      have HNB := Lib.hid hnb
      clear hnb
      have hsz2 : w0.heap.size ≤ ((wr.alloc (.cells #[Value.string x.f0, Value.int .i64 x.f1] 46)).alloc (.cells #[Value.string x.f0, Value.int .i64 x.f1] 58)).heap.size := by simp; omega
      have HSZ := Lib.hid hsz2
      clear hsz2
      go_wp2_with (at_builtin; refine wpList_append_lies _ rfl (.tmp 12) (.tmp 14) 32 rfl w0.heap.size 58 i0 _ 2 24 Tryd.underlying32 hi0 hz0 hz1 hz2 rfl (by omega) u3 k (flatE (l.take k)) rfl ((HO.out.alloc _).alloc _) ⟨wr.heap.size + 1, 0, none⟩ 1 1 [.string x.f0, .int .i64 x.f1] rfl rfl (World.news_of_block (cs := #[.string x.f0, .int .i64 x.f1]) (t := 58) (fr := (0, 0)) HNB.out) (by simp [Value.oneCell']) (by omega) hn9 hn10 HSZ.out _ rfl ?_; intro gg cap w9 hown9 hgrow hat hlt9; have HO9 := Lib.hid hown9; have HB9 : Hid (Below w0.heap.size w0 w9) := ((HB.out.alloc hsz _).alloc (by simp; omega) _).grown hgrow HSZ.out (fun g hg => own_ge HO.out hg); clear hown9 hgrow)
      go_roundw
      case rel => exact ⟨k + 1, by omega, by go_num, (by rw [← HFL.out]; exact HO9.out), HB9⟩
      case measure => simp [intOf]; omega
    · obtain rfl : k = l.length := by omega
      rw [List.take_length] at HO
      obtain ⟨A', c', rfl, hc', hC'⟩ := own_ents HO.out rfl
      have HC := Lib.hid hC'
      clear hC'
      go_wp2_with fail
      go_ret
      exact ⟨⟨A', c', rfl, hc', HC.out⟩, HB.out⟩
end Go.Proofs.YtbcmmmcbineipaaDoor
