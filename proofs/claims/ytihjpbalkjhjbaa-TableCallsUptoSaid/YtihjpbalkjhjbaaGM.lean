/- The contract of mark, as print.sh wrote it. No conditions of its own beyond those that its theorems name. -/
import Derived.Test.YtihjpbalkjhjbaaPTableEndsx0
namespace Go.Proofs.Ytihjpbalkjhjbaa.PTableEnds
open Go.RowKit Go.Proofs.YtihjpbalkjhjbaaW.PrintWords Go.Proofs.YtihjpbalkjhjbaaW.PrintLast Go.Proofs.YtihjpbalkjhjbaaW.PrintMore
attribute [local go_sem] max2_int min2_int max_two min_two max_three min_three max_four min_four
set_option linter.unusedVariables false
set_option linter.unusedSimpArgs false
/-! ### fuguelaw11_mark: function 49 -/
def fuguelaw11_mark.f (a0 : Int) : Option (ByteArray) := if a0 < 0 then ((some (([(wrap64 (-a0)) % 256, ((wrap64 (-a0)) / 256) % 256, ((wrap64 (-a0)) / 65536) % 256] : List Int) : List Int)).bind fun y331 => (if 1 + (strOfNums y331).size ≤ 9223372036854775807 then (some ((⟨#[110]⟩ : ByteArray) ++ (strOfNums y331))) else (none))) else ((some (([(a0) % 256, (a0 / 256) % 256, (a0 / 65536) % 256] : List Int) : List Int)).bind fun y334 => (if 1 + (strOfNums y334).size ≤ 9223372036854775807 then (some ((⟨#[109]⟩ : ByteArray) ++ (strOfNums y334))) else (none)))
set_option maxHeartbeats 8000000 in
set_option maxRecDepth 100000 in
theorem fuguelaw11_mark.calls (a0 : Int) (r : ByteArray) (w : World) (h : fuguelaw11_mark.f a0 = some r) :
    Calls Try.prog 49 #[.int .i64 a0] w fun e w' => e = .returned (.string r) ∧ Below w.heap.size w w' := by
  have HB := Aside0.mk (Below.refl w.heap.size w)
  have H : (if a0 < 0 then ((some (([(wrap64 (-a0)) % 256, ((wrap64 (-a0)) / 256) % 256, ((wrap64 (-a0)) / 65536) % 256] : List Int) : List Int)).bind fun y331 => (if 1 + (strOfNums y331).size ≤ 9223372036854775807 then (some ((⟨#[110]⟩ : ByteArray) ++ (strOfNums y331))) else (none))) else ((some (([(a0) % 256, (a0 / 256) % 256, (a0 / 65536) % 256] : List Int) : List Int)).bind fun y334 => (if 1 + (strOfNums y334).size ≤ 9223372036854775807 then (some ((⟨#[109]⟩ : ByteArray) ++ (strOfNums y334))) else (none)))) = some r := h
  clear h
  by_cases c2 : a0 < 0
  · rw [if_pos c2] at H
    have c2b0 : decide (a0 < 0) = true := decide_eq_true c2
    clear c2
    obtain ⟨y331, hy331⟩ : ∃ y_ : List Int, y_ = (([(wrap64 (-a0)) % 256, ((wrap64 (-a0)) / 256) % 256, ((wrap64 (-a0)) / 65536) % 256] : List Int)) := ⟨_, rfl⟩
    replace H : (if 1 + (strOfNums y331).size ≤ 9223372036854775807 then (some ((⟨#[110]⟩ : ByteArray) ++ (strOfNums y331))) else (none)) = some r := by first | (rw [hy331]; with_reducible exact H) | (have H2_ := (Option.bind_some _ _).symm.trans H; rw [hy331]; with_reducible exact H2_) | (have H2_ := (Option.bind_some _ _).symm.trans H; with_reducible exact H2_) | with_reducible exact H | (rw [hy331]; exact H) | exact H
    have Ny331 := Aside0.mk hy331
    clear hy331
    by_cases c3 : 1 + (strOfNums y331).size ≤ 9223372036854775807
    · rw [if_pos c3] at H
      have c3b0 := eq_true c3
      have c3b1 : decide (1 + (strOfNums y331).size ≤ 9223372036854775807) = true := decide_eq_true c3
      try have c3b2 : (9223372036854775807 < 1 + (strOfNums y331).size) = False := eq_false (Nat.not_lt.2 c3)
      obtain rfl := Option.some.inj H
      go_enter Try.func49, Try.ntmps49
      go_wp2_with (first | ((with_reducible refine gate_dst (N := 17) rfl ?_); refine Kd.R_lit (Kd.int .u8) _ 5 ?hg (N := 17) ?hd (xs := ([(wrap64 (-a0)) % 256, ((wrap64 (-a0)) / 256) % 256, ((wrap64 (-a0)) / 65536) % 256] : List Int)) (inner := [.int .u8 ((wrap64 (-a0)) % 256), .int .u8 (((wrap64 (-a0)) / 256) % 256), .int .u8 (((wrap64 (-a0)) / 65536) % 256)]) (ok := fun _ => True) (okp := fun _ => True) ?hr ?hp (fun _ hk => hk) trivial (Below.refl _ _) (Nat.le_refl _) (by simp) ?_; (case hd => rfl); (case hg => rfl); (case hr => first | (go_simp; done) | (go_simp; rfl)); (case hp => exact (Reps.one (show Kd.M (Kd.int .u8) _ _ _ ((wrap64 (-a0)) % 256) [.int .u8 ((wrap64 (-a0)) % 256)] from rfl) (Reps.one (show Kd.M (Kd.int .u8) _ _ _ (((wrap64 (-a0)) / 256) % 256) [.int .u8 (((wrap64 (-a0)) / 256) % 256)] from rfl) (Reps.one (show Kd.M (Kd.int .u8) _ _ _ (((wrap64 (-a0)) / 65536) % 256) [.int .u8 (((wrap64 (-a0)) / 65536) % 256)] from rfl) (Reps.none _ _))))); intro v332 w4 ho5 hb hg_ hnew_; clear hg_ hnew_; (first | rw [← Ny331.out] at ho5 | (simp only [Int.reduceToNat] at ho5; rw [← Ny331.out] at ho5)); have n0_ := Aside0.mk (Kd.R_lower ho5 (below_size (by repeat (first | (with_reducible first | exact HB.out | apply below_alloc | apply pw_below_drewN | apply below_drew1) | exact HB.out)))); have n1_ := Aside0.mk (below_step (by repeat (first | (with_reducible first | exact HB.out | apply below_alloc | apply pw_below_drewN | apply below_drew1) | exact HB.out)) hb); clear HB; have HO333 := n0_; have HB := n1_; clear n0_ n1_; clear hb ho5; have hcv6 := own_string (P := Try.prog) Try.underlying134 Try.underlying5 Try.underlying9 (Kd.own_of_R HO333.out)))
      go_ret
      exact ⟨by first | rfl | (simp [errW_none, errW_some] <;> rfl) | (simp [*, errW_none, errW_some] <;> rfl), by repeat (first | (with_reducible first | exact HB.out | apply below_alloc | apply pw_below_drewN | apply below_drew1) | exact HB.out)⟩
    · rw [if_neg c3] at H
      exact absurd H (by simp)
  · rw [if_neg c2] at H
    have c2b0 : decide (a0 < 0) = false := decide_eq_false c2
    clear c2
    obtain ⟨y334, hy334⟩ : ∃ y_ : List Int, y_ = (([(a0) % 256, (a0 / 256) % 256, (a0 / 65536) % 256] : List Int)) := ⟨_, rfl⟩
    replace H : (if 1 + (strOfNums y334).size ≤ 9223372036854775807 then (some ((⟨#[109]⟩ : ByteArray) ++ (strOfNums y334))) else (none)) = some r := by first | (rw [hy334]; with_reducible exact H) | (have H2_ := (Option.bind_some _ _).symm.trans H; rw [hy334]; with_reducible exact H2_) | (have H2_ := (Option.bind_some _ _).symm.trans H; with_reducible exact H2_) | with_reducible exact H | (rw [hy334]; exact H) | exact H
    have Ny334 := Aside0.mk hy334
    clear hy334
    by_cases c7 : 1 + (strOfNums y334).size ≤ 9223372036854775807
    · rw [if_pos c7] at H
      have c7b0 := eq_true c7
      have c7b1 : decide (1 + (strOfNums y334).size ≤ 9223372036854775807) = true := decide_eq_true c7
      try have c7b2 : (9223372036854775807 < 1 + (strOfNums y334).size) = False := eq_false (Nat.not_lt.2 c7)
      obtain rfl := Option.some.inj H
      go_enter Try.func49, Try.ntmps49
      go_wp2_with (first | ((with_reducible refine gate_dst (N := 17) rfl ?_); refine Kd.R_lit (Kd.int .u8) _ 5 ?hg (N := 17) ?hd (xs := ([(a0) % 256, (a0 / 256) % 256, (a0 / 65536) % 256] : List Int)) (inner := [.int .u8 ((a0) % 256), .int .u8 ((a0 / 256) % 256), .int .u8 ((a0 / 65536) % 256)]) (ok := fun _ => True) (okp := fun _ => True) ?hr ?hp (fun _ hk => hk) trivial (Below.refl _ _) (Nat.le_refl _) (by simp) ?_; (case hd => rfl); (case hg => rfl); (case hr => first | (go_simp; done) | (go_simp; rfl)); (case hp => exact (Reps.one (show Kd.M (Kd.int .u8) _ _ _ ((a0) % 256) [.int .u8 ((a0) % 256)] from rfl) (Reps.one (show Kd.M (Kd.int .u8) _ _ _ ((a0 / 256) % 256) [.int .u8 ((a0 / 256) % 256)] from rfl) (Reps.one (show Kd.M (Kd.int .u8) _ _ _ ((a0 / 65536) % 256) [.int .u8 ((a0 / 65536) % 256)] from rfl) (Reps.none _ _))))); intro v335 w8 ho9 hb hg_ hnew_; clear hg_ hnew_; (first | rw [← Ny334.out] at ho9 | (simp only [Int.reduceToNat] at ho9; rw [← Ny334.out] at ho9)); have n0_ := Aside0.mk (Kd.R_lower ho9 (below_size (by repeat (first | (with_reducible first | exact HB.out | apply below_alloc | apply pw_below_drewN | apply below_drew1) | exact HB.out)))); have n1_ := Aside0.mk (below_step (by repeat (first | (with_reducible first | exact HB.out | apply below_alloc | apply pw_below_drewN | apply below_drew1) | exact HB.out)) hb); clear HB; have HO336 := n0_; have HB := n1_; clear n0_ n1_; clear hb ho9; have hcv10 := own_string (P := Try.prog) Try.underlying134 Try.underlying5 Try.underlying9 (Kd.own_of_R HO336.out)))
      go_ret
      exact ⟨by first | rfl | (simp [errW_none, errW_some] <;> rfl) | (simp [*, errW_none, errW_some] <;> rfl), by repeat (first | (with_reducible first | exact HB.out | apply below_alloc | apply pw_below_drewN | apply below_drew1) | exact HB.out)⟩
    · rw [if_neg c7] at H
      exact absurd H (by simp)
end Go.Proofs.Ytihjpbalkjhjbaa.PTableEnds
