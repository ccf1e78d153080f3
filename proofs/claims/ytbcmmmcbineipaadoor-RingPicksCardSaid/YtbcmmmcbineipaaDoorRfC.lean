/- The reference's sum. -/
import Derived.Test.YtbcmmmcbineipaaDoorRfA
import Derived.Test.YtbcmmmcbineipaaDoorRfB
import Derived.Test.YtbcmmmcbineipaaDoorMd
set_option linter.unusedVariables false
set_option linter.unusedSimpArgs false
namespace Go.Proofs.YtbcmmmcbineipaaDoor
open Go.RowKit Go.Proofs.YtbcmmmcbineipaaDoorW.PrintWords Go.Proofs.YtbcmmmcbineipaaDoorW.PrintLast Go.Proofs.YtbcmmmcbineipaaDoorW.PrintMore
open Go.Proofs.YtbcmmmcbineipaaDoor.PR

theorem bytesOf_extract (s : ByteArray) (i j : Nat) : bytesOf (s.extract i j) = ((bytesOf s).drop i).take (j - i) := by
  unfold bytesOf
  obtain ⟨⟨l⟩⟩ := s
  rw [ByteArray.extract_mk]
  simp [List.map_take, List.map_drop]
def SumRel (w0 : World) (s0 : Sip) (s : ByteArray) (v : Value) (wr : World) : Prop :=
  ∃ (t : ByteArray) (u : Sip), v = .string t ∧ t.size ≤ s.size ∧ Hid (absorb s0 (bytesOf s) = absorb u (bytesOf t)) ∧ Hid (wr.heap[w0.heap.size]? = some (.cells (sips u) 92 (0, 0))) ∧ Hid (Below w0.heap.size w0 wr)
def RndRel (w0 : World) (u : Sip) (v : Value) (wr : World) : Prop :=
  ∃ j : Nat, j ≤ 4 ∧ v = .int .i64 j ∧ Hid (wr.heap[w0.heap.size]? = some (.cells (sips (srounds j u)) 92 (0, 0))) ∧ Hid (Below w0.heap.size w0 wr)
def strSize : Value → Nat
  | .string t => t.size
  | _ => 0
set_option maxHeartbeats 1000000 in
set_option maxRecDepth 100000 in
theorem rsum_calls (key s : ByteArray) (w0 : World) (hk : key.size = 16) (hs : s.size ≤ 1000000) :
    Calls Tryd.prog 27 #[.string key, .string s] w0 fun e w' => e = .returned (.int .u64 (ssum (bytesOf key) (bytesOf s))) ∧ Below w0.heap.size w0 w' := by
  have HK := Lib.hid hk
  have hs1 : (key.extract 0 8).size = 8 := by rw [ByteArray.size_extract]; omega
  have hs2 : (key.extract 8 16).size = 8 := by rw [ByteArray.size_extract]; omega
  have HW1 : Hid (∀ w, Calls Tryd.prog 40 #[.string (key.extract 0 8)] w fun e w' => e = .returned (.int .u64 (le (bytesOf (key.extract 0 8)))) ∧ ∃ n, w' = w.drewN n) := fun w => rword_calls _ (by omega) w
  have HW2 : Hid (∀ w, Calls Tryd.prog 40 #[.string (key.extract 8 16)] w fun e w' => e = .returned (.int .u64 (le (bytesOf (key.extract 8 16)))) ∧ ∃ n, w' = w.drewN n) := fun w => rword_calls _ (by omega) w
  clear hs1 hs2
  have q1 : 8 ≤ key.size := by omega
  have q2 : 16 ≤ key.size := by omega
  clear hk
  go_enter Tryd.func27, Tryd.ntmps27
  go_wp2_with fail
  refine (HW1.out _).mono ?_
  rintro e w1 ⟨rfl, ⟨n1, rfl⟩⟩
  go_wp2_with fail
  refine (HW2.out _).mono ?_
  rintro e w1 ⟨rfl, ⟨n2, rfl⟩⟩
  obtain ⟨k1, Hk1⟩ : ∃ k1 : Int, Hid (k1 = le (bytesOf (key.extract 0 8))) := ⟨_, rfl⟩
  obtain ⟨k2, Hk2⟩ : ∃ k2 : Int, Hid (k2 = le (bytesOf (key.extract 8 16))) := ⟨_, rfl⟩
  rw [← Hk1.out, ← Hk2.out]
  have HB1 := Lib.hid (pw_below_drewN (pw_below_drewN (Below.refl w0.heap.size w0) n1) n2)
  have hsz : ((w0.drewN n1).drewN n2).heap.size = w0.heap.size := rfl
  generalize (w0.drewN n1).drewN n2 = w1 at HB1 hsz ⊢
  go_wp2_with fail
  obtain ⟨s0, Hs0⟩ : ∃ s0 : Sip, Hid (s0 = ⟨Go.bits .xor .u64 k1 8317987319222330741, Go.bits .xor .u64 k2 7237128888997146477, Go.bits .xor .u64 k1 7816392313619706465, Go.bits .xor .u64 k2 8387220255154660723⟩) := ⟨_, rfl⟩
  have he : (#[.int .u64 (Go.bits .xor .u64 k1 8317987319222330741), .int .u64 (Go.bits .xor .u64 k2 7237128888997146477), .int .u64 (Go.bits .xor .u64 k1 7816392313619706465), .int .u64 (Go.bits .xor .u64 k2 8387220255154660723)] : Array Value) = sips s0 := by rw [Hs0.out]; rfl
  rw [he]
  have hg := blk_new w1 (.cells (sips s0) 92)
  rw [hsz] at hg
  have HG2 := Lib.hid hg
  have HB2 := Lib.hid (below_alloc HB1.out (.cells (sips s0) 92))
  clear hg he hsz HB1
  generalize (w1.alloc (.cells (sips s0) 92)) = w2 at HG2 HB2 ⊢
  go_loopw [1] (fun v wr => SumRel w0 s0 s v wr) (fun v _ => strSize v)
  case atStart => exact ⟨s, s0, rfl, Nat.le_refl _, rfl, HG2, HB2⟩
  case round =>
    obtain ⟨t, u, rfl, hts, HA, HG, HB⟩ := hrel
    by_cases hlt : 8 ≤ t.size
    · have hsx : (t.extract 0 8).size = 8 := by rw [ByteArray.size_extract]; omega
      have HW : Hid (∀ w, Calls Tryd.prog 40 #[.string (t.extract 0 8)] w fun e w' => e = .returned (.int .u64 (le (bytesOf (t.extract 0 8)))) ∧ ∃ n, w' = w.drewN n) := fun w => rword_calls _ (by omega) w
      have hwe : le (bytesOf (t.extract 0 8)) = sword (bytesOf t) := by
        rw [sword_le _ (okB_bytes t) (by rw [bytesOf_length]; omega), bytesOf_extract, List.drop_zero]
      have hab : absorb s0 (bytesOf s) = absorb (stake u (sword (bytesOf t))) (bytesOf (t.extract 8 t.size)) := by
        rw [HA.out, absorb_step u (bytesOf t) (by rw [bytesOf_length]; omega), bytesOf_extract, List.take_of_length_le (by rw [List.length_drop, bytesOf_length]; omega)]
      have HAB := Lib.hid hab
      have HWE := Lib.hid hwe
      clear hab hwe hsx
      rw [HWE.out] at HW
      go_wp2_with fail
      refine hd_region (n := 5) (S := fun w' => w'.cell? ⟨w0.heap.size, 0, none⟩ = some (.int .u64 u.a) ∧ w'.cell? ⟨w0.heap.size, 1, none⟩ = some (.int .u64 u.b) ∧ w'.cell? ⟨w0.heap.size, 2, none⟩ = some (.int .u64 u.c) ∧ w'.cell? ⟨w0.heap.size, 3, none⟩ = some (.int .u64 u.d)) (by kernel_rfl) (by kernel_rfl) (sips_cell HG.out) (fun hHeld => ?_)
      refine HdSt.takeAt (i := 0) 30 (v := ?_) (by kernel_rfl) rfl rfl (by decide) (by kernel_rfl) (by kernel_rfl) (fun _ _ _ h => h) (Or.inl ⟨by rfl, ?_⟩) (by assumption) ?_
      rotate_left 1
      · intro w hSw; (try dsimp only at hSw); go_simp; try with_reducible rfl
      try simp only [Act.put, List.setIfInBounds_toArray, List.set_cons_zero, List.set_cons_succ]
      refine HdSt.takeAt (i := 1) 31 (v := ?_) (by kernel_rfl) rfl rfl (by decide) (by kernel_rfl) (by kernel_rfl) (fun _ _ _ h => h) (Or.inl ⟨by rfl, ?_⟩) (by assumption) ?_
      rotate_left 1
      · intro w hSw; (try dsimp only at hSw); go_simp; try with_reducible rfl
      try simp only [Act.put, List.setIfInBounds_toArray, List.set_cons_zero, List.set_cons_succ]
      refine HdSt.takeAt (i := 2) 32 (v := ?_) (by kernel_rfl) rfl rfl (by decide) (by kernel_rfl) (by kernel_rfl) (fun _ _ _ h => h) (Or.inl ⟨by rfl, ?_⟩) (by assumption) ?_
      rotate_left 1
      · intro w hSw; (try dsimp only at hSw); go_simp; try with_reducible rfl
      try simp only [Act.put, List.setIfInBounds_toArray, List.set_cons_zero, List.set_cons_succ]
      refine HdSt.one (i := 3) (by kernel_rfl) (by decide) rfl (fun K hK => ?_)
      go_simp
      refine (HW.out _).mono ?_
      rintro e w' ⟨rfl, ⟨n3, rfl⟩⟩
      refine hK.out _ _ (sips_cell HG.out) (fun hHeld => ?_)
      clear hK K
      try simp only [Act.put, List.setIfInBounds_toArray, List.set_cons_zero, List.set_cons_succ]
      refine HdSt.one (i := 4) (by kernel_rfl) (by decide) rfl (fun K hK => ?_)
      go_simp
      refine (rtake_calls u _ _).mono ?_
      rintro e w4 ⟨rfl, hb4⟩
      refine hK.out _ _ (sips_cell (blk_below HG.out ((pw_below_drewN (Below.refl wr.heap.size wr) _).trans hb4))) (fun hHeld => ?_)
      clear hK K
      try simp only [Act.put, List.setIfInBounds_toArray, List.set_cons_zero, List.set_cons_succ]
      refine HdSt.done (by kernel_rfl) ?_
      change wpList _ _ _ [_] _ _
      have hb5 : Below wr.heap.size wr w4 := (pw_below_drewN (Below.refl wr.heap.size wr) _).trans hb4
      have HG4 := Lib.hid (blk_below HG.out hb5)
      have HB4 : Hid (Below w0.heap.size w0 w4) := HB.out.trans (hb5.mono HB.out.size)
      clear hb5 hb4 hHeld
      obtain ⟨⟨a4, b4, c4, d4⟩, Hu4⟩ : ∃ u4 : Sip, Hid (u4 = stake u (sword (bytesOf t))) := ⟨_, rfl⟩
      rw [← Hu4.out]
      rw [show sips ⟨a4, b4, c4, d4⟩ = #[.int .u64 a4, .int .u64 b4, .int .u64 c4, .int .u64 d4] from rfl]
      obtain ⟨r0, r1, r2, r3⟩ := sips_cell HG4.out
      have f0 := fz_of (i := 0) HG4
      have f1 := fz_of (i := 1) HG4
      have f2 := fz_of (i := 2) HG4
      have f3 := fz_of (i := 3) HG4
      have HG5 := sips_set4 ⟨a4, b4, c4, d4⟩ HG4
      have HB5 := Lib.hid ((((HB4.out.setCell (p := ⟨w0.heap.size, 0, none⟩) (Nat.le_refl _) (.int .u64 a4)).setCell (p := ⟨w0.heap.size, 1, none⟩) (Nat.le_refl _) (.int .u64 b4)).setCell (p := ⟨w0.heap.size, 2, none⟩) (Nat.le_refl _) (.int .u64 c4)).setCell (p := ⟨w0.heap.size, 3, none⟩) (Nat.le_refl _) (.int .u64 d4))
      go_wp2_with fail
      clear r0 r1 r2 r3 f0 f1 f2 f3 HG4 HB4
      generalize (((w4.setCell ⟨w0.heap.size, 0, none⟩ (.int .u64 a4)).setCell ⟨w0.heap.size, 1, none⟩ (.int .u64 b4)).setCell ⟨w0.heap.size, 2, none⟩ (.int .u64 c4)).setCell ⟨w0.heap.size, 3, none⟩ (.int .u64 d4) = w5 at HG5 HB5 ⊢
      go_wp2_with fail
      go_roundw
      case rel => exact ⟨_, ⟨a4, b4, c4, d4⟩, rfl, by rw [ByteArray.size_extract]; omega, (by rw [Hu4.out]; exact HAB), HG5, HB5⟩
      case measure => simp [strSize]; omega
    · have HW : Hid (∀ w, Calls Tryd.prog 40 #[.string t] w fun e w' => e = .returned (.int .u64 (le (bytesOf t))) ∧ ∃ n, w' = w.drewN n) := fun w => rword_calls _ (by omega) w
      have q5 : (s.size : Int) ≤ 1000000 := by omega
      have hlw : IntKind.u64.wrap (le (bytesOf t) + IntKind.u64.wrap (IntKind.u64.wrap ((s.size : Int).tmod 256) * 72057594037927936)) = sword (slast (bytesOf t) s.size) := by
        rw [last_word (bytesOf t) (okB_bytes t) (by rw [bytesOf_length]; omega) s.size, Int.tmod_eq_emod_of_nonneg (by omega), wrap_u64_id ((s.size : Int) % 256) (by omega) (by omega), show (2 : Int) ^ 56 = 72057594037927936 by decide]
      have HLW := Lib.hid hlw
      clear hlw
      go_wp2_with fail
      refine hd_region (n := 9) (S := fun w' => w'.cell? ⟨w0.heap.size, 0, none⟩ = some (.int .u64 u.a) ∧ w'.cell? ⟨w0.heap.size, 1, none⟩ = some (.int .u64 u.b) ∧ w'.cell? ⟨w0.heap.size, 2, none⟩ = some (.int .u64 u.c) ∧ w'.cell? ⟨w0.heap.size, 3, none⟩ = some (.int .u64 u.d)) (by kernel_rfl) (by kernel_rfl) (sips_cell HG.out) (fun hHeld => ?_)
      refine HdSt.takeAt (i := 0) 37 (v := ?_) (by kernel_rfl) rfl rfl (by decide) (by kernel_rfl) (by kernel_rfl) (fun _ _ _ h => h) (Or.inl ⟨by rfl, ?_⟩) (by assumption) ?_
      rotate_left 1
      · intro w hSw; (try dsimp only at hSw); go_simp; try with_reducible rfl
      try simp only [Act.put, List.setIfInBounds_toArray, List.set_cons_zero, List.set_cons_succ]
      refine HdSt.takeAt (i := 1) 38 (v := ?_) (by kernel_rfl) rfl rfl (by decide) (by kernel_rfl) (by kernel_rfl) (fun _ _ _ h => h) (Or.inl ⟨by rfl, ?_⟩) (by assumption) ?_
      rotate_left 1
      · intro w hSw; (try dsimp only at hSw); go_simp; try with_reducible rfl
      try simp only [Act.put, List.setIfInBounds_toArray, List.set_cons_zero, List.set_cons_succ]
      refine HdSt.takeAt (i := 3) 40 (v := ?_) (by kernel_rfl) rfl rfl (by decide) (by kernel_rfl) (by kernel_rfl) (fun _ _ _ h => h) (Or.inl ⟨by rfl, ?_⟩) (by assumption) ?_
      rotate_left 1
      · intro w hSw; (try dsimp only at hSw); go_simp; try with_reducible rfl
      try simp only [Act.put, List.setIfInBounds_toArray, List.set_cons_zero, List.set_cons_succ]
      refine HdSt.takeAt (i := 4) 41 (v := ?_) (by kernel_rfl) rfl rfl (by decide) (by kernel_rfl) (by kernel_rfl) (fun _ _ _ h => h) (Or.inl ⟨by rfl, ?_⟩) (by assumption) ?_
      rotate_left 1
      · intro w hSw; (try dsimp only at hSw); go_simp; try with_reducible rfl
      try simp only [Act.put, List.setIfInBounds_toArray, List.set_cons_zero, List.set_cons_succ]
      refine HdSt.takeAt (i := 5) 42 (v := ?_) (by kernel_rfl) rfl rfl (by decide) (by kernel_rfl) (by kernel_rfl) (fun _ _ _ h => h) (Or.inl ⟨by rfl, ?_⟩) (by assumption) ?_
      rotate_left 1
      · intro w hSw; (try dsimp only at hSw); go_simp; try with_reducible rfl
      try simp only [Act.put, List.setIfInBounds_toArray, List.set_cons_zero, List.set_cons_succ]
      refine HdSt.takeAt (i := 6) 43 (v := ?_) (by kernel_rfl) rfl rfl (by decide) (by kernel_rfl) (by kernel_rfl) (fun _ _ _ h => h) (Or.inl ⟨by rfl, ?_⟩) (by assumption) ?_
      rotate_left 1
      · intro w hSw; (try dsimp only at hSw); go_simp; try with_reducible rfl
      try simp only [Act.put, List.setIfInBounds_toArray, List.set_cons_zero, List.set_cons_succ]
      refine HdSt.one (i := 2) (by kernel_rfl) (by decide) rfl (fun K hK => ?_)
      go_simp
      refine (HW.out _).mono ?_
      rintro e w' ⟨rfl, ⟨n3, rfl⟩⟩
      refine hK.out _ _ (sips_cell HG.out) (fun hHeld => ?_)
      clear hK K
      try simp only [Act.put, List.setIfInBounds_toArray, List.set_cons_zero, List.set_cons_succ]
      refine HdSt.takeAt (i := 7) 44 (v := ?_) (by kernel_rfl) rfl rfl (by decide) (by kernel_rfl) (by kernel_rfl) (fun _ _ _ h => h) (Or.inl ⟨by rfl, ?_⟩) (by assumption) ?_
      rotate_left 1
      · intro w hSw; (try dsimp only at hSw); go_simp; try with_reducible rfl
      try simp only [Act.put, List.setIfInBounds_toArray, List.set_cons_zero, List.set_cons_succ]
      refine HdSt.one (i := 8) (by kernel_rfl) (by decide) rfl (fun K hK => ?_)
      go_simp
      refine (rtake_calls u _ _).mono ?_
      rintro e w4 ⟨rfl, hb4⟩
      refine hK.out _ _ (sips_cell (blk_below HG.out ((pw_below_drewN (Below.refl wr.heap.size wr) _).trans hb4))) (fun hHeld => ?_)
      clear hK K
      try simp only [Act.put, List.setIfInBounds_toArray, List.set_cons_zero, List.set_cons_succ]
      refine HdSt.done (by kernel_rfl) ?_
      rw [HLW.out]
      change wpList _ _ _ [_] _ _
      have hb5 : Below wr.heap.size wr w4 := (pw_below_drewN (Below.refl wr.heap.size wr) _).trans hb4
      have HG4 := Lib.hid (blk_below HG.out hb5)
      have HB4 : Hid (Below w0.heap.size w0 w4) := HB.out.trans (hb5.mono HB.out.size)
      clear hb5 hb4 hHeld
      obtain ⟨⟨a4, b4, c4, d4⟩, Hu4⟩ : ∃ u4 : Sip, Hid (u4 = stake u (sword (slast (bytesOf t) s.size))) := ⟨_, rfl⟩
      rw [← Hu4.out]
      simp only [sips]
      obtain ⟨r0, r1, r2, r3⟩ := sips_cell HG4.out
      have f0 := fz_of (i := 0) HG4
      have f1 := fz_of (i := 1) HG4
      have f2 := fz_of (i := 2) HG4
      have f3 := fz_of (i := 3) HG4
      have HG5 := sips_set4 ⟨a4, b4, c4, d4⟩ HG4
      have HB5 := Lib.hid ((((HB4.out.setCell (p := ⟨w0.heap.size, 0, none⟩) (Nat.le_refl _) (.int .u64 a4)).setCell (p := ⟨w0.heap.size, 1, none⟩) (Nat.le_refl _) (.int .u64 b4)).setCell (p := ⟨w0.heap.size, 2, none⟩) (Nat.le_refl _) (.int .u64 c4)).setCell (p := ⟨w0.heap.size, 3, none⟩) (Nat.le_refl _) (.int .u64 d4))
      go_wp2_with fail
      clear r0 r1 r2 r3 f0 f1 f2 f3 HG4 HB4
      generalize (((w4.setCell ⟨w0.heap.size, 0, none⟩ (.int .u64 a4)).setCell ⟨w0.heap.size, 1, none⟩ (.int .u64 b4)).setCell ⟨w0.heap.size, 2, none⟩ (.int .u64 c4)).setCell ⟨w0.heap.size, 3, none⟩ (.int .u64 d4) = w5 at HG5 HB5 ⊢
      have HG6 : Hid ((w5.setCell ⟨w0.heap.size, 2, none⟩ (.int .u64 (Go.bits .xor .u64 c4 255))).heap[w0.heap.size]? = some (.cells (sips ⟨a4, b4, Go.bits .xor .u64 c4 255, d4⟩) 92 (0, 0))) := st_blk HG5 2
      have HB6 := Lib.hid (HB5.out.setCell (p := ⟨w0.heap.size, 2, none⟩) (Nat.le_refl _) (.int .u64 (Go.bits .xor .u64 c4 255)))
      clear HG5 HB5
      generalize w5.setCell ⟨w0.heap.size, 2, none⟩ (.int .u64 (Go.bits .xor .u64 c4 255)) = w6 at HG6 HB6 ⊢
      obtain ⟨u6, Hu6⟩ : ∃ u6 : Sip, Hid (u6 = ⟨a4, b4, Go.bits .xor .u64 c4 255, d4⟩) := ⟨_, rfl⟩
      rw [← Hu6.out] at HG6
      go_loopw [9] (fun v wr => RndRel w0 u6 v wr) (fun v _ => 4 - (intOf v).toNat)
      case atStart => exact ⟨0, by omega, rfl, HG6, HB6⟩
      case round =>
        obtain ⟨j, hj, rfl, HG7, HB7⟩ := hrel
        obtain ⟨r0, r1, r2, r3⟩ := sips_cell HG7.out
        by_cases hlt : j < 4
        · go_wp2_with fail
          refine (rround_calls (srounds j u6) _).mono ?_
          rintro e w8 ⟨rfl, hb8⟩
          have HG8 := Lib.hid (blk_below HG7.out hb8)
          have HB8 : Hid (Below w0.heap.size w0 w8) := HB7.out.trans (hb8.mono HB7.out.size)
          clear hb8 r0 r1 r2 r3 HG7 HB7
          have hsr : sround (srounds j u6) = srounds (j + 1) u6 := rfl
          rw [hsr]
          obtain ⟨⟨a8, b8, c8, d8⟩, Hu8⟩ : ∃ u8 : Sip, Hid (u8 = srounds (j + 1) u6) := ⟨_, rfl⟩
          clear hsr
          rw [← Hu8.out]
          rw [show sips ⟨a8, b8, c8, d8⟩ = #[.int .u64 a8, .int .u64 b8, .int .u64 c8, .int .u64 d8] from rfl]
          obtain ⟨r0, r1, r2, r3⟩ := sips_cell HG8.out
          have f0 := fz_of (i := 0) HG8
          have f1 := fz_of (i := 1) HG8
          have f2 := fz_of (i := 2) HG8
          have f3 := fz_of (i := 3) HG8
          have HG9 := sips_set4 ⟨a8, b8, c8, d8⟩ HG8
          have HB9 := Lib.hid ((((HB8.out.setCell (p := ⟨w0.heap.size, 0, none⟩) (Nat.le_refl _) (.int .u64 a8)).setCell (p := ⟨w0.heap.size, 1, none⟩) (Nat.le_refl _) (.int .u64 b8)).setCell (p := ⟨w0.heap.size, 2, none⟩) (Nat.le_refl _) (.int .u64 c8)).setCell (p := ⟨w0.heap.size, 3, none⟩) (Nat.le_refl _) (.int .u64 d8))
          go_wp2_with fail
          go_roundw
          case rel => exact ⟨j + 1, by omega, by go_num, (by rw [← Hu8.out]; exact HG9), HB9⟩
          case measure => simp [intOf]; omega
        · obtain rfl : j = 4 := by omega
          go_wp2_with fail
          have hfin : ssum (bytesOf key) (bytesOf s) = Go.bits .xor .u64 (Go.bits .xor .u64 (Go.bits .xor .u64 (srounds 4 u6).a (srounds 4 u6).b) (srounds 4 u6).c) (srounds 4 u6).d := by
            have e0 : sinit (bytesOf key) = s0 := by
              have hl := bytesOf_length key
              have hk := HK.out
              have x1 : k1 = sword ((bytesOf key).take 8) := by
                rw [Hk1.out, sword_le _ (okB_take (okB_bytes key) 8) (by rw [List.length_take]; omega), bytesOf_extract, List.drop_zero, List.take_take]
                rfl
              have x2 : k2 = sword ((bytesOf key).drop 8) := by
                rw [Hk2.out, sword_le _ (fun b hb => okB_bytes key b (List.mem_of_mem_drop hb)) (by rw [List.length_drop]; omega), bytesOf_extract]
              rw [Hs0.out, x1, x2]
              rfl
            have e1 : absorb u (bytesOf t) = (u, bytesOf t) := absorb_end _ _ (by rw [bytesOf_length]; omega)
            unfold ssum
            rw [e0, HA.out, e1, bytesOf_length]
            unfold send sfinal
            simp only [← Hu4.out]
            rw [← Hu6.out]
          go_ret
          exact ⟨by rw [hfin]; rfl, HB7.out⟩
end Go.Proofs.YtbcmmmcbineipaaDoor
