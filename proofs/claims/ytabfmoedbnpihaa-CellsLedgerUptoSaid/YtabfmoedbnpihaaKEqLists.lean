/- A step towards the laws on the cells of a run: two lists of lists that are alike (EqLists). No conditions of its own beyond those that its theorems name. -/
import Derived.Test.YtabfmoedbnpihaaKTold
import Derived.StillTailTactics
namespace Go.Proofs.Ytabfmoedbnpihaa
open Go.RowKit Go.MapKept

/-- a slice of lists, in whatever memory -/
def IntsAll (w : World) (A : Option Addr) (n : Nat) (xss : List (List Int)) : Prop :=
  xss.length = n ∧ ∀ (i : Nat) (xs : List Int), xss[i]? = some xs → ∃ b o, A = some ⟨b, o, none⟩ ∧ b < w.heap.size ∧ xs.length ≤ 9223372036854775807 ∧ ∃ B C, w.cell? ⟨b, o + i, none⟩ = some (.slice B xs.length C) ∧ Ints w B xs.length xs

set_option maxRecDepth 100000 in
set_option maxHeartbeats 1000000 in
theorem eqLists_same (w : World) (A B : Option Addr) (n CA CB : Nat) (l : List (List Int)) (ha : IntsAll w A n l) (hb : IntsAll w B n l) (hn : n ≤ 9223372036854775807) :
    Calls Try.prog 29 #[.slice A n CA, .slice B n CB] w fun e w' => e = .returned (.bool true) ∧ Fresh w w' := by
  have HA := Lib.hid ha
  have HB := Lib.hid hb
  clear ha hb
  go_enter Try.func29, Try.ntmps29
  go_wp2_with fail
  go_loopw [5] (fun s3 wr => ∃ i : Nat, i ≤ n ∧ s3 = .int .i64 i ∧ Fresh w wr) (fun s3 _ => n - (intOf s3).toNat)
  case atStart => exact ⟨0, Nat.zero_le _, rfl, by repeat (first | exact Only.refl _ _ | refine Only.drew ?_)⟩
  case round =>
    obtain ⟨i, hi, rfl, hf⟩ := hrel
    have HF := Lib.hid hf
    clear hf
    by_cases hlt : i < n
    · obtain ⟨x, hx⟩ : ∃ x, l[i]? = some x := ⟨l[i]'(by have := HA.out.1; omega), List.getElem?_eq_getElem _⟩
      obtain ⟨ba, oa, rfl, hba, hxl, A1, C1, ea, ia⟩ := HA.out.2 i x hx
      obtain ⟨bb, ob, rfl, hbb, _, B1, D1, eb, ib⟩ := HB.out.2 i x hx
      have ca : wr.cell? ⟨ba, oa + i, none⟩ = some (.slice A1 x.length C1) := (Fresh.cel HF.out (p := ⟨ba, _, none⟩) hba).trans ea
      have cb : wr.cell? ⟨bb, ob + i, none⟩ = some (.slice B1 x.length D1) := (Fresh.cel HF.out (p := ⟨bb, _, none⟩) hbb).trans eb
      have HC := Lib.hid (fun W (f : Fresh w W) => eqInts_same W A1 B1 x.length C1 D1 x (ia.alloc f) (ib.alloc f) hxl)
      clear hx ea eb ia ib hxl
      go_wp2_with fail
      refine wp_region_still_tail 8 (by kernel_rfl) (by kernel_rfl) ?_
      simp only [List.take_succ_cons, List.take_zero, List.drop_succ_cons, List.drop_zero]
      repeat still_step
      refine wpStill_nil ?_
      go_wp2_with fail
      refine (HC.out _ (HF.out.trans' (Only.refl _ _).drew)).mono ?_
      rintro e w1 ⟨rfl, F1⟩
      have HF1 := Lib.hid ((HF.out.trans' (Only.refl _ _).drew).trans' F1)
      clear F1
      go_wp2_with fail
      go_roundw
      case rel => exact ⟨i + 1, by omega, by go_num, HF1.out⟩
      case measure => simp [intOf]; omega
    · go_wp2_with fail
      go_ret
      exact ⟨rfl, HF.out⟩
end Go.Proofs.Ytabfmoedbnpihaa
