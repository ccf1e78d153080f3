/- The copy of the law's fields, walked. -/
import Derived.Test.YtaebjpfgjgnpoaaDoorHo
set_option linter.unusedVariables false
set_option linter.unusedSimpArgs false
namespace Go.Proofs.YtaebjpfgjgnpoaaDoor
open Go.RowKit Go.Shelf Go.Proofs.YtaebjpfgjgnpoaaDoorW.PrintWords Go.Proofs.YtaebjpfgjgnpoaaDoorW.PrintLast Go.Proofs.YtaebjpfgjgnpoaaDoorW.PrintMore
open Go.Proofs.YtaebjpfgjgnpoaaDoor.PR
attribute [local go_sem] Oper.semAt_some

theorem blk_next (w : World) (o1 o2 : Obj) : ((w.alloc o1).alloc o2).heap[w.heap.size + 1]? = some o2 := by
  have h := World.alloc_heap_new (w.alloc o1) o2
  rw [World.size_alloc] at h
  exact h
set_option maxHeartbeats 400000 in
set_option maxRecDepth 100000 in
theorem own06_calls (A : Option Addr) (c : Nat) (l : List S40) (w0 : World) (hr : Kd.C k40 w0 A l.length l) (hc : l.length ≤ c) (hl : l.length ≤ 1000000) :
    Calls Tryd.prog 8 #[.slice A l.length c] w0 fun e w' => (∃ A' c', e = .returned (.slice A' l.length c') ∧ l.length ≤ c' ∧ Kd.C k40 w' A' l.length l) ∧ Below w0.heap.size w0 w' := by
  have HR := Lib.hid hr
  clear hr
  obtain ⟨i0, hi0, hz0, hz1, hz2⟩ := info_parts infoFld
  go_enter Tryd.func8, Tryd.ntmps8
  go_wp2_with fail
  go_loopw [3, 8] (fun v i wr => ∃ k : Nat, k ≤ l.length ∧ i = .int .i64 k ∧ Hid (wr.ownsRow w0.heap.size 33 2 v k (flatF (l.take k))) ∧ Hid (Below w0.heap.size w0 wr)) (fun _ i _ => l.length - (intOf i).toNat)
  case atStart => exact ⟨0, Nat.zero_le _, rfl, World.ownsRow_nil _ _ _ _, Below.refl _ _⟩
  case round =>
    obtain ⟨k, hk, rfl, HO, HB⟩ := hrel
    by_cases hlt : k < l.length
    · obtain ⟨ad, hAd, hc0, hc1⟩ := fld_at (Kd.C_below HR.out HB.out) k hlt
      subst hAd
      obtain ⟨x, Hx⟩ : ∃ x : S40, Hid (x = l[k]) := ⟨l[k], rfl⟩
      rw [← Hx.out] at hc0 hc1
      have hsz := HB.out.size
      have hn9 : k + 1 ≤ maxLen := by unfold maxLen; omega
      have hn10 : (k + 1) * 32 ≤ 140737488355328 := by omega
      have hfl : flatF (l.take k) ++ [Value.string x.f0, Value.string x.f1] = flatF (l.take (k + 1)) := by
        rw [List.take_succ_eq_append_getElem hlt, flatF_append, ← Hx.out]
        rfl
      have HFL := Lib.hid hfl
      clear hfl
      have hnb := blk_next wr (.cells #[Value.string x.f0, Value.string x.f1] 40) (.cells #[Value.string x.f0, Value.string x.f1] 33)
      have HNB := Lib.hid hnb
      clear hnb
      have hsz2 : w0.heap.size ≤ ((wr.alloc (.cells #[Value.string x.f0, Value.string x.f1] 40)).alloc (.cells #[Value.string x.f0, Value.string x.f1] 33)).heap.size := by simp; omega
      have HSZ := Lib.hid hsz2
      clear hsz2
      go_wp2_with (at_builtin; refine wpList_append_lies _ rfl (.tmp 12) (.tmp 14) 27 rfl w0.heap.size 33 i0 _ 2 32 Tryd.underlying27 hi0 hz0 hz1 hz2 rfl (by omega) u3 k (flatF (l.take k)) rfl ((HO.out.alloc _).alloc _) ⟨wr.heap.size + 1, 0, none⟩ 1 1 [.string x.f0, .string x.f1] rfl rfl (World.news_of_block (cs := #[.string x.f0, .string x.f1]) (t := 33) (fr := (0, 0)) HNB.out) (by simp [Value.oneCell']) (by omega) hn9 hn10 HSZ.out _ rfl ?_; intro gg cap w9 hown9 hgrow hat hlt9; have HO9 := Lib.hid hown9; have HB9 : Hid (Below w0.heap.size w0 w9) := ((HB.out.alloc hsz _).alloc (by simp; omega) _).grown hgrow HSZ.out (fun g hg => own_ge HO.out hg); clear hown9 hgrow)
      go_roundw
      case rel => exact ⟨k + 1, by omega, by go_num, (by rw [← HFL.out]; exact HO9.out), HB9⟩
      case measure => simp [intOf]; omega
    · obtain rfl : k = l.length := by omega
      rw [List.take_length] at HO
      obtain ⟨A', c', rfl, hc', hC'⟩ := own_flds HO.out rfl
      have HC := Lib.hid hC'
      clear hC'
      go_wp2_with fail
      go_ret
      exact ⟨⟨A', c', rfl, hc', HC.out⟩, HB.out⟩
end Go.Proofs.YtaebjpfgjgnpoaaDoor
