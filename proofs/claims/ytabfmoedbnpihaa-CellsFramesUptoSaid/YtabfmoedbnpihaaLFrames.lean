/- CellsFrames, where what comes in is of bulk at most 1048576: the law answers true, and each argument reads afterwards as it read before. -/
import Derived.Test.YtabfmoedbnpihaaKOps
import Derived.Test.YtabfmoedbnpihaaKFramesW
import Derived.Test.YtabfmoedbnpihaaKBulk
namespace Go.Proofs.Ytabfmoedbnpihaa.cellsFrames
open Go.ChangeShapes Go.WideShapes Go.ChangeAt Go.RowKit Go.Deep

theorem ints_of {H : Type} {enc : TypeId × Value → H} {W : World} {A : Option Addr} {n C : Nat} {d : DataW H} {p : List MemPlace}
    (h : DataW.Trod enc Try.prog W 0 (fun _ => true) true 39 (.slice A n C) d p) : (∃ el sp, n ≤ el.length ∧ (d = .slice el sp ∨ n = 0)) ∧ n ≤ 9223372036854775807 ∧ ∃ xs, Ints W A n xs := by
  obtain ⟨fuel, hf⟩ := h
  have hf' : DataW.trod enc Try.prog W 0 (fun _ => true) true fuel 39 [.slice A n C] = some (d, p) := by simpa [Value.cells] using hf
  refine ⟨?_, ints_open hf'⟩
  rcases open_slice Try.underlying39 hf' with ⟨hcs, _⟩ | ⟨a, len, cap, m, k, D, Pl, hcs, _, hl, hm, hmm, hx, hi⟩
  · simp at hcs
    obtain ⟨rfl, rfl, rfl⟩ := hcs
    exact ⟨[], [], Nat.le_refl _, .inr rfl⟩
  · simp at hcs
    obtain ⟨rfl, rfl, rfl⟩ := hcs
    exact ⟨_, _, by simp, .inl (congrArg Prod.fst hx)⟩

set_option maxRecDepth 100000 in
theorem lifted (os : Os) (started : os.Started) (H : Type) (enc : TypeId × Value → H) (F : Stop.Interp) :
    ReturnsInHanded {} Try.checked os 4 .any ((Rows.OpenSpec.upto Rows.cellsFramesSpec).pre6 enc Try.prog Try.f4 Rows.cellsFramesUptoRow.domain false) (((Rows.OpenSpec.upto Rows.cellsFramesSpec).at F).post enc Try.prog Try.f4 false true false false) := by
  refine returnsInHanded_of_cond (C := Try.checked) (s := Rows.OpenSpec.upto Rows.cellsFramesSpec) (k := Rows.uptoSmall) rfl own started (by kernel_rfl) Try.func4
    (OpenSpec.witness (enc := enc) (C := Try.checked) (s := Rows.OpenSpec.upto Rows.cellsFramesSpec) (k := Rows.uptoSmall) rfl false ⟨#[], #[.slice none 0 0, .slice none 0 0], []⟩ 8 (by kernel_rfl) (by kernel_rfl) (by kernel_rfl)
      (x := ([.nil, .nil], [], [])) (by kernel_rfl) rfl (by kernel_rfl)) ?_
  intro W base args ds gs before hval0 hW _ hk _
  have hval : ∀ (j : Nat) t v, Try.f4.params[j]? = some t → args[j]? = some v → Value.okWide Try.prog W .any base t v := hval0
  have hW' := hW
  obtain ⟨p, q, hA0, hV, rfl, hfz, hnd⟩ := hW
  have hA : DataW.TrodAll enc Try.prog W 0 (fun _ => true) true Try.f4.params.toList args.toList ds p := hA0
  rw [Try.params4] at hA hval
  obtain ⟨v0, vs0, d0, ds0, p0, q0, hargs, rfl, rfl, h0, r0⟩ := trodAll_cons hA
  obtain ⟨v1, vs1, d1, ds1, p1, q1, rfl, rfl, rfl, h1, r1⟩ := trodAll_cons r0
  obtain ⟨rfl, rfl, rfl⟩ := trodAll_nil r1
  obtain rfl : args = #[v0, v1] := by cases args; simp_all
  obtain ⟨rfl, rfl⟩ := trodVars_none hV
  obtain ⟨a0, len0, cap0, rfl⟩ := okWide_slice Try.underlying39 (hval 0 39 v0 rfl rfl)
  obtain ⟨a1, len1, cap1, rfl⟩ := okWide_slice Try.underlying39 (hval 1 39 v1 rfl rfl)
  have k0 := h0
  have k1 := h1
  have lt0 : ∀ x ∈ p0, x.block < W.heap.size := by obtain ⟨m, hm⟩ := k0; exact DataW.trod_lt m _ _ _ hm
  have lt1 : ∀ x ∈ p1, x.block < W.heap.size := by obtain ⟨m, hm⟩ := k1; exact DataW.trod_lt m _ _ _ hm
  obtain ⟨hl0, hm0, xs, hxs⟩ := ints_of h0
  obtain ⟨hl1, hm1, ys, hys⟩ := ints_of h1
  have hn0 : len0 ≤ 1048576 := bulk_slice hk (d := d0) (by simp) hl0
  have hn1 : len1 ≤ 1048576 := bulk_slice hk (d := d1) (by simp) hl1
  clear hA0 hval0
  have mods : ∀ (l : List Int) (i : Nat) (x : Int), l[i]? = some x → x % 5 = (((l[i]?.getD 0) % 5).toNat : Nat) := fun l i x h => by
    rw [h]
    simp only [Option.getD_some]
    omega
  have four : ∀ (l : List Int) (i : Nat), ((l[i]?.getD 0) % 5).toNat ≤ 4 := fun l i => by omega
  refine (frames_walk W a0 a1 len0 len1 cap0 cap1 xs ys hxs hys _ rfl (by split <;> omega) hm0 hm1 (fun i => ((xs[i]?.getD 0) % 5).toNat) (fun i => ((ys[i]?.getD 0) % 5).toNat) (mods xs) (mods ys) (four xs) (four ys)).mono fun e W' ⟨he, hfr⟩ => ?_
  subst he
  have bel : Below W.heap.size W W' := hfr.below (Nat.le_refl _) fun _ q => q.elim
  exact ⟨_, rfl, _, _, _, [], _, [], hW', trodAll_mk1 (shut_bool Try.underlying4 _), (trodAll_cons_mk (Below.trod laidOut (by kernel_rfl) (of_decide_eq_true (by kernel_rfl)) k0 bel lt0) (trodAll_cons_mk (Below.trod laidOut (by kernel_rfl) (of_decide_eq_true (by kernel_rfl)) k1 bel lt1) trodAll_mk0)), rfl, bel.frame _, fun h => by cases h⟩

theorem over : Rows.cellsFramesUptoRow.holds Try.pinned (Rows.OpenSpec.upto Rows.cellsFramesSpec) :=
  OpenClaim.holds_of_cond 4 Try.f4 rfl rfl rfl rfl rfl rfl rfl ⟨rfl, rfl, rfl, rfl, rfl⟩ rfl rfl rfl rfl rfl (by kernel_rfl) Try.func4 (by kernel_rfl)
    (of_decide_eq_true (by kernel_rfl)) (by unfold Func.isWrapper; first | (rw [if_pos (by decide +kernel)]; kernel_rfl) | (rw [if_neg (by decide +kernel)]; exact ⟨rfl, rfl⟩))
    (fun os started H enc _ F => lifted os started H enc F)

theorem proved : Rows.CellsFramesUptoSaid := over
end Go.Proofs.Ytabfmoedbnpihaa.cellsFrames
