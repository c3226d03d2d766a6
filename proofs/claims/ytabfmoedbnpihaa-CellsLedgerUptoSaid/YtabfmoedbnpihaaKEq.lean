/- A step towards the laws on the cells of a run: two lists that are alike (EqInts). No conditions of its own beyond those that its theorems name. -/
import Derived.Test.YtabfmoedbnpihaaKOne3
namespace Go.Proofs.Ytabfmoedbnpihaa
open Go.RowKit Go.MapKept

set_option maxRecDepth 100000 in
set_option maxHeartbeats 1000000 in
theorem eqInts_same (w : World) (A B : Option Addr) (n CA CB : Nat) (l : List Int) (ha : Ints w A n l) (hb : Ints w B n l) (hn : n ≤ 9223372036854775807) :
    Calls Try.prog 27 #[.slice A n CA, .slice B n CB] w fun e w' => e = .returned (.bool true) ∧ Fresh w w' := by
  have HA := Lib.hid ha
  have HB := Lib.hid hb
  clear ha hb
  go_enter Try.func27, Try.ntmps27
  go_wp2_with fail
  go_loopw [5] (fun s3 wr => ∃ i : Nat, i ≤ n ∧ s3 = .int .i64 i ∧ Fresh w wr) (fun s3 _ => n - (intOf s3).toNat)
  case atStart => exact ⟨0, Nat.zero_le _, rfl, by repeat (first | exact Only.refl _ _ | refine Only.drew ?_)⟩
  case round =>
    obtain ⟨i, hi, rfl, hf⟩ := hrel
    have HF := Lib.hid hf
    clear hf
    by_cases hlt : i < n
    · obtain ⟨x, hx⟩ : ∃ x, l[i]? = some x := ⟨l[i]'(by have := HA.out.1; omega), List.getElem?_eq_getElem _⟩
      obtain ⟨ba, oa, rfl, hba, ea⟩ := HA.out.2 i x hx
      obtain ⟨bb, ob, rfl, hbb, eb⟩ := HB.out.2 i x hx
      have ca : wr.cell? ⟨ba, oa + i, none⟩ = some (.int .i64 x) := (Fresh.cel HF.out (p := ⟨ba, _, none⟩) hba).trans ea
      have cb : wr.cell? ⟨bb, ob + i, none⟩ = some (.int .i64 x) := (Fresh.cel HF.out (p := ⟨bb, _, none⟩) hbb).trans eb
      clear hx ea eb
      go_wp2_with fail
      go_still (by kernel_rfl)
      go_wp2_with fail
      go_roundw
      case rel => exact ⟨i + 1, by omega, by go_num, by repeat (first | exact HF.out | refine Only.drew ?_)⟩
      case measure => simp [intOf]; omega
    · go_wp2_with fail
      go_ret
      exact ⟨rfl, HF.out⟩
end Go.Proofs.Ytabfmoedbnpihaa
