/- CellsLedger, where what comes in is of bulk at most 1048576: the law answers true, and its argument reads afterwards as it read before. -/
import Derived.Test.YtabfmoedbnpihaaKArgs
import Derived.Test.YtabfmoedbnpihaaKLedger
import Derived.Test.YtabfmoedbnpihaaKBulk
namespace Go.Proofs.Ytabfmoedbnpihaa.cellsLedger
open Go.ChangeShapes Go.WideShapes Go.ChangeAt Go.RowKit Go.Deep

theorem acts_of {H : Type} {enc : TypeId × Value → H} {W : World} {A : Option Addr} {n C : Nat} {d : DataW H} {p : List MemPlace}
    (h : DataW.Trod enc Try.prog W 0 (fun _ => true) true 42 (.slice A n C) d p) : (∃ el sp, n ≤ el.length ∧ (d = .slice el sp ∨ n = 0)) ∧ ∃ xs, Acts W A n xs := by
  obtain ⟨fuel, hf⟩ := h
  rcases open_slice_fields Try.underlying42 Try.underlying49 (by kernel_rfl) (by kernel_rfl) hf with ⟨hcs, _⟩ | ⟨a, len, cap, m, D, Pl, hcs, _, hl, hm, hmm, hx, hi⟩
  · simp [Value.cells] at hcs
    obtain ⟨rfl, rfl, rfl⟩ := hcs
    exact ⟨⟨[], [], Nat.le_refl _, .inr rfl⟩, [], rfl, fun i x h => by simp at h⟩
  · simp [Value.cells] at hcs
    obtain ⟨rfl, rfl, rfl⟩ := hcs
    refine ⟨⟨_, _, by simp, .inl (congrArg Prod.fst hx)⟩, ?_⟩
    have hm' : m = C := by simpa using hmm
    have hsp : 0 < n → a = ⟨a.block, a.off, none⟩ := by
      intro h0
      obtain ⟨ys, k, _, _, _, hfld⟩ := hi 0 (by omega)
      obtain ⟨v0, y0, hc0, _, _⟩ := hfld 0 _ rfl
      obtain ⟨p0, _⟩ := plain_addr hc0
      have e : a.add (0 * 5 + 0) = a := by simp [Addr.add]
      exact e.symm.trans p0
    have each : ∀ i, i < n → ∃ x : PAct, ∃ b o, some a = some ⟨b, o, none⟩ ∧ b < W.heap.size ∧ W.cell? ⟨b, o + i * 5, none⟩ = some (.int .i64 x.k) ∧ W.cell? ⟨b, o + i * 5 + 1, none⟩ = some (.int .i64 x.n) ∧
        W.cell? ⟨b, o + i * 5 + 2, none⟩ = some (.bool x.heap) ∧ W.cell? ⟨b, o + i * 5 + 3, none⟩ = some (.int .i64 x.f) ∧ W.cell? ⟨b, o + i * 5 + 4, none⟩ = some (.int .i64 x.x) := by
      intro i hin
      obtain ⟨ys, k, _, _, _, hfld⟩ := hi i (by omega)
      obtain ⟨v0, y0, hc0, _, t0⟩ := hfld 0 _ rfl
      obtain ⟨v1, y1, hc1, _, t1⟩ := hfld 1 _ rfl
      obtain ⟨v2, y2, hc2, _, t2⟩ := hfld 2 _ rfl
      obtain ⟨v3, y3, hc3, _, t3⟩ := hfld 3 _ rfl
      obtain ⟨v4, y4, hc4, _, t4⟩ := hfld 4 _ rfl
      obtain ⟨x0, e0, _, _⟩ := DataW.trod_int Try.underlying3 t0
      obtain ⟨x1, e1, _, _⟩ := DataW.trod_int Try.underlying3 t1
      obtain ⟨x2, e2, _⟩ := DataW.trod_bool Try.underlying4 t2
      obtain ⟨x3, e3, _, _⟩ := DataW.trod_int Try.underlying3 t3
      obtain ⟨x4, e4, _, _⟩ := DataW.trod_int Try.underlying3 t4
      simp at e0 e1 e2 e3 e4
      subst e0; subst e1; subst e2; subst e3; subst e4
      obtain ⟨p0, hb⟩ := plain_addr hc0
      obtain ⟨p1, _⟩ := plain_addr hc1
      obtain ⟨p2, _⟩ := plain_addr hc2
      obtain ⟨p3, _⟩ := plain_addr hc3
      obtain ⟨p4, _⟩ := plain_addr hc4
      rw [p0] at hc0
      rw [p1] at hc1
      rw [p2] at hc2
      rw [p3] at hc3
      rw [p4] at hc4
      exact ⟨⟨x0, x1, x2, x3, x4⟩, a.block, a.off, by rw [← hsp (by omega)], hb, by simpa using hc0, by simpa [Nat.add_assoc] using hc1, by simpa [Nat.add_assoc] using hc2, by simpa [Nat.add_assoc] using hc3, by simpa [Nat.add_assoc] using hc4⟩
    refine ⟨(List.range n).map fun i => if h : i < n then (each i h).choose else ⟨0, 0, false, 0, 0⟩, by simp, fun i x hx => ?_⟩
    have hin : i < n := by
      have := (List.getElem?_eq_some_iff.1 hx).1
      simpa using this
    have hx' : x = (each i hin).choose := by
      rw [List.getElem?_map, List.getElem?_range hin, Option.map_some, dif_pos hin] at hx
      injection hx with hx
      exact hx.symm
    subst hx'
    exact (each i hin).choose_spec

set_option maxRecDepth 100000 in
theorem lifted (os : Os) (started : os.Started) (H : Type) (enc : TypeId × Value → H) (F : Stop.Interp) :
    ReturnsInHanded {} Try.checked os 5 .any ((Rows.OpenSpec.upto Rows.cellsLedgerSpec).pre6 enc Try.prog Try.f5 Rows.cellsLedgerUptoRow.domain false) (((Rows.OpenSpec.upto Rows.cellsLedgerSpec).at F).post enc Try.prog Try.f5 false true false false) := by
  refine returnsInHanded_of_cond (C := Try.checked) (s := Rows.OpenSpec.upto Rows.cellsLedgerSpec) (k := Rows.uptoSmall) rfl own started (by kernel_rfl) Try.func5
    (OpenSpec.witness (enc := enc) (C := Try.checked) (s := Rows.OpenSpec.upto Rows.cellsLedgerSpec) (k := Rows.uptoSmall) rfl false ⟨#[], #[.slice none 0 0], []⟩ 8 (by kernel_rfl) (by kernel_rfl) (by kernel_rfl)
      (x := ([.nil], [], [])) (by kernel_rfl) rfl (by kernel_rfl)) ?_
  intro W base args ds gs before hval0 hW _ hk _
  have hval : ∀ (j : Nat) t v, Try.f5.params[j]? = some t → args[j]? = some v → Value.okWide Try.prog W .any base t v := hval0
  have hW' := hW
  obtain ⟨p, q, hA0, hV, rfl, hfz, hnd⟩ := hW
  have hA : DataW.TrodAll enc Try.prog W 0 (fun _ => true) true Try.f5.params.toList args.toList ds p := hA0
  rw [Try.params5] at hA hval
  obtain ⟨v0, vs0, d0, ds0, p0, q0, hargs, rfl, rfl, h0, r0⟩ := trodAll_cons hA
  obtain ⟨rfl, rfl, rfl⟩ := trodAll_nil r0
  obtain rfl : args = #[v0] := by cases args; simp_all
  obtain ⟨rfl, rfl⟩ := trodVars_none hV
  obtain ⟨a0, len0, cap0, rfl⟩ := okWide_slice Try.underlying42 (hval 0 42 v0 rfl rfl)
  have k0 := h0
  have lt0 : ∀ x ∈ p0, x.block < W.heap.size := by obtain ⟨m, hm⟩ := k0; exact DataW.trod_lt m _ _ _ hm
  obtain ⟨hl, xs, hxs⟩ := acts_of h0
  have hn : len0 ≤ 1048576 := bulk_slice hk (d := d0) (by simp) hl
  clear hA0 hval0
  refine (ledger_walk W a0 len0 cap0 xs hxs hn).mono fun e W' ⟨he, hfr⟩ => ?_
  subst he
  have bel : Below W.heap.size W W' := hfr.below (Nat.le_refl _) fun _ q => q.elim
  exact ⟨_, rfl, _, _, _, [], _, [], hW', trodAll_mk1 (shut_bool Try.underlying4 _), (trodAll_cons_mk (Below.trod laidOut (by kernel_rfl) (of_decide_eq_true (by kernel_rfl)) k0 bel lt0) trodAll_mk0), rfl, bel.frame _, fun h => by cases h⟩

theorem over : Rows.cellsLedgerUptoRow.holds Try.pinned (Rows.OpenSpec.upto Rows.cellsLedgerSpec) :=
  OpenClaim.holds_of_cond 5 Try.f5 rfl rfl rfl rfl rfl rfl rfl ⟨rfl, rfl, rfl, rfl, rfl⟩ rfl rfl rfl rfl rfl (by kernel_rfl) Try.func5 (by kernel_rfl)
    (of_decide_eq_true (by kernel_rfl)) (by unfold Func.isWrapper; first | (rw [if_pos (by decide +kernel)]; kernel_rfl) | (rw [if_neg (by decide +kernel)]; exact ⟨rfl, rfl⟩))
    (fun os started H enc _ F => lifted os started H enc F)

theorem proved : Rows.CellsLedgerUptoSaid := over
end Go.Proofs.Ytabfmoedbnpihaa.cellsLedger
