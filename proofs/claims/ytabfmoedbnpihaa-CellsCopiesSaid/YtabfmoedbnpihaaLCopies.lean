/- CellsCopies: for every input the law answers true, and each argument reads afterwards as it read before. No conditions. -/
import Derived.Test.YtabfmoedbnpihaaKCopiesW
import Derived.Test.YtabfmoedbnpihaaKArgs
namespace Go.Proofs.Ytabfmoedbnpihaa.cellsCopies
open Go.ChangeShapes Go.WideShapes Go.ChangeAt Go.RowKit Go.Deep

theorem vals_of {H : Type} {enc : TypeId × Value → H} {W : World} {A : Option Addr} {n C : Nat} {d : DataW H} {p : List MemPlace}
    (h : DataW.Trod enc Try.prog W 0 (fun _ => true) true 22 (.slice A n C) d p) : n ≤ 9223372036854775807 ∧ ∃ xs, Vals W A n xs := by
  obtain ⟨fuel, hf⟩ := h
  rcases open_slice_fields Try.underlying22 Try.underlying32 (by kernel_rfl) (by kernel_rfl) hf with ⟨hcs, _⟩ | ⟨a, len, cap, m, D, Pl, hcs, _, hl, hm, hmm, _, hi⟩
  · simp [Value.cells] at hcs
    obtain ⟨rfl, rfl, rfl⟩ := hcs
    exact ⟨by omega, [], rfl, fun i x h => by simp at h⟩
  · simp [Value.cells] at hcs
    obtain ⟨rfl, rfl, rfl⟩ := hcs
    refine ⟨by unfold maxLen at hm; omega, ?_⟩
    have hm' : m = C := by simpa using hmm
    have hsp : 0 < n → a = ⟨a.block, a.off, none⟩ := by
      intro h0
      obtain ⟨ys, k, _, _, _, hfld⟩ := hi 0 (by omega)
      obtain ⟨v0, y0, hc0, _, _⟩ := hfld 0 _ rfl
      obtain ⟨p0, _⟩ := plain_addr hc0
      have e : a.add (0 * 2 + 0) = a := by simp [Addr.add]
      exact e.symm.trans p0
    have each : ∀ i, i < n → ∃ x : Int × Int, ∃ b o, some a = some ⟨b, o, none⟩ ∧ b < W.heap.size ∧ W.cell? ⟨b, o + i * 2, none⟩ = some (.int .i64 x.1) ∧ W.cell? ⟨b, o + i * 2 + 1, none⟩ = some (.int .i64 x.2) := by
      intro i hin
      obtain ⟨ys, k, _, _, _, hfld⟩ := hi i (by omega)
      obtain ⟨v0, y0, hc0, _, t0⟩ := hfld 0 _ rfl
      obtain ⟨v1, y1, hc1, _, t1⟩ := hfld 1 _ rfl
      obtain ⟨x0, e0, _, _⟩ := DataW.trod_int Try.underlying3 t0
      obtain ⟨x1, e1, _, _⟩ := DataW.trod_int Try.underlying3 t1
      simp at e0 e1
      subst e0; subst e1
      obtain ⟨p0, hb⟩ := plain_addr hc0
      obtain ⟨p1, _⟩ := plain_addr hc1
      rw [p0] at hc0
      rw [p1] at hc1
      exact ⟨(x0, x1), a.block, a.off, by rw [← hsp (by omega)], hb, by simpa using hc0, by simpa [Nat.add_assoc] using hc1⟩
    refine ⟨(List.range n).map fun i => if h : i < n then (each i h).choose else (0, 0), by simp, fun i x hx => ?_⟩
    have hin : i < n := by
      have := (List.getElem?_eq_some_iff.1 hx).1
      simpa using this
    have hx' : x = (each i hin).choose := by
      rw [List.getElem?_map, List.getElem?_range hin, Option.map_some, dif_pos hin] at hx
      injection hx with hx
      exact hx.symm
    subst hx'
    exact (each i hin).choose_spec

set_option maxRecDepth 100000 in
theorem lifted (os : Os) (started : os.Started) (H : Type) (enc : TypeId × Value → H) :
    ReturnsInHanded {} Try.checked os 3 .any (Rows.cellsCopiesSpec.pre6 enc Try.prog Try.f3 Rows.cellsCopiesRow.domain false) (Rows.cellsCopiesSpec.post enc Try.prog Try.f3 false true false false) := by
  refine returnsInHanded_of_change (C := Try.checked) own started (by kernel_rfl) Try.func3
    (ChangeSpec.witness6 (enc := enc) (C := Try.checked) false ⟨#[], #[.int .i64 0, .bool false, .slice none 0 0], []⟩ 8 (by kernel_rfl) (by kernel_rfl) (by kernel_rfl) (by kernel_rfl)) ?_
  intro W base args ds gs before hval0 hW hcnd _
  have hval : ∀ (j : Nat) t v, Try.f3.params[j]? = some t → args[j]? = some v → Value.okWide Try.prog W .any base t v := hval0
  have hW' := hW
  obtain ⟨p, q, hA0, hV, rfl, hfz, hnd⟩ := hW
  have hA : DataW.TrodAll enc Try.prog W 0 (fun _ => true) true Try.f3.params.toList args.toList ds p := hA0
  rw [Try.params3] at hA hval
  obtain ⟨v0, vs0, d0, ds0, p0, q0, hargs, rfl, rfl, h0, r0⟩ := trodAll_cons hA
  obtain ⟨v1, vs1, d1, ds1, p1, q1, rfl, rfl, rfl, h1, r1⟩ := trodAll_cons r0
  obtain ⟨v2, vs2, d2, ds2, p2, q2, rfl, rfl, rfl, h2, r2⟩ := trodAll_cons r1
  obtain ⟨rfl, rfl, rfl⟩ := trodAll_nil r2
  obtain rfl : args = #[v0, v1, v2] := by cases args; simp_all
  obtain ⟨rfl, rfl⟩ := trodVars_none hV
  obtain ⟨a0, rfl, rfl, rfl, w0⟩ := open_int Try.underlying3 (hval 0 3 v0 rfl rfl) h0
  obtain ⟨a1, rfl, rfl, rfl⟩ := open_bool Try.underlying4 (hval 1 4 v1 rfl rfl) h1
  obtain ⟨a2, len2, cap2, rfl⟩ := okWide_slice Try.underlying22 (hval 2 22 v2 rfl rfl)
  have k2 := h2
  have lt2 : ∀ x ∈ p2, x.block < W.heap.size := by obtain ⟨m, hm⟩ := k2; exact DataW.trod_lt m _ _ _ hm
  obtain ⟨hn, xs, hxs⟩ := vals_of h2
  clear hA0 hval0
  refine (copies_walk W a0 a1 a2 len2 cap2 xs hxs hn).mono fun e W' ⟨he, hfr⟩ => ?_
  subst he
  have bel : Below W.heap.size W W' := hfr.below (Nat.le_refl _) fun _ q => q.elim
  exact ⟨_, rfl, _, _, _, [], _, [], hW', trodAll_mk1 (shut_bool Try.underlying4 _), (trodAll_cons_mk (shut_int Try.underlying3 w0) (trodAll_cons_mk (shut_bool Try.underlying4 _) (trodAll_cons_mk (Below.trod laidOut (by kernel_rfl) (of_decide_eq_true (by kernel_rfl)) k2 bel lt2) trodAll_mk0))), rfl, bel.frame _, fun h => by cases h⟩

theorem over : Rows.cellsCopiesRow.holds Try.pinned (OpenSpec.ofChange Rows.cellsCopiesSpec) :=
  OpenClaim.holds_of_wide 3 Try.f3 rfl rfl rfl rfl rfl rfl rfl ⟨rfl, rfl, rfl, rfl, rfl⟩ rfl rfl rfl rfl rfl (by kernel_rfl) Try.func3 (by kernel_rfl)
    (of_decide_eq_true (by kernel_rfl)) (by unfold Func.isWrapper; first | (rw [if_pos (by decide +kernel)]; kernel_rfl) | (rw [if_neg (by decide +kernel)]; exact ⟨rfl, rfl⟩))
    (fun os started H enc _ => lifted os started H enc)

theorem proved : Rows.CellsCopiesSaid := over
end Go.Proofs.Ytabfmoedbnpihaa.cellsCopies
