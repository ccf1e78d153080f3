/- The digits of a small number. -/
import Derived.Test.YtbcmmmcbineipaaDoorSipF
import Derived.Test.YtbcmmmcbineipaaDoorShelf
set_option linter.unusedVariables false
set_option linter.unusedSimpArgs false
namespace Go.Proofs.YtbcmmmcbineipaaDoor
open Go.RowKit Go.Proofs.YtbcmmmcbineipaaDoorW.PrintWords Go.Proofs.YtbcmmmcbineipaaDoorW.PrintLast Go.Proofs.YtbcmmmcbineipaaDoorW.PrintMore
open Go.Proofs.YtbcmmmcbineipaaDoor.PR
theorem itoa_small (i : Nat) (hi : i < 100) (w : World) :
    Calls Tryd.prog 34 #[.int .i64 i] w fun e w' => e = .returned (.string ⟨(Lib.decDigits i).toArray⟩) ∧ w' = w := Any.strconv_Itoa_small Tryd.lays171 i hi w
theorem digits_calls (i : Nat) (hi : i < 100) (w : World) :
    Calls Tryd.prog 24 #[.int .i64 i] w fun e w' => e = .returned (.string ⟨(Lib.decDigits i).toArray⟩) ∧ w' = w := by
  have HI := Lib.hid (itoa_small i hi w)
  obtain ⟨d, Hd⟩ : ∃ d : ByteArray, Hid (d = ⟨(Lib.decDigits i).toArray⟩) := ⟨_, rfl⟩
  rw [← Hd.out] at HI ⊢
  have hm : max (0 : Int) i = i := by omega
  go_enter Tryd.func24, Tryd.ntmps24
  go_wp2_with (go_at_call 34; refine HI.out.mono ?_; rintro e w' ⟨rfl, rfl⟩)
  go_ret
  exact ⟨rfl, rfl⟩
end Go.Proofs.YtbcmmmcbineipaaDoor
