/- A step towards the laws on the cells of a run: the contract of Store. No conditions of its own beyond those that its theorems name. -/
import Derived.Test.YtabfmoedbnpihaaKLoad
import Derived.Lib.Hide
namespace Go.Proofs.Ytabfmoedbnpihaa
open Go.RowKit Go.MapKept

theorem MemAt.fresh {w w1 : World} {p : Nat} {lab : Lab} {M : PM} (h : MemAt w p lab M) (ho : Fresh w w1) : MemAt w1 p lab M := h.only ho fun _ _ q => q
theorem MemAt.alloc {w : World} {p : Nat} {lab : Lab} {M : PM} (h : MemAt w p lab M) (o : Obj) : MemAt (w.alloc o) p lab M := h.fresh ((Only.refl _ _).alloc o)

set_option maxRecDepth 100000 in
set_option maxHeartbeats 1000000 in
theorem store_bad {w : World} {p : Nat} {lab : Lab} {M : PM} (h : MemAt w p lab M) (x : Int × Int) (i : Int) (y : Int × Int) (he : M.storeErr x i y ≠ 0) :
    Calls Try.prog 15 #[.pointer (some ⟨p, 0, none⟩), vv x, .int .i64 i, vv y] w fun e w' => e = .returned (.int .i64 (M.storeErr x i y)) ∧ Fresh w w' := by
  have hself : ∀ W, MemAt W p lab M → ∃ gv cv fv, W.heap[p]? = some (.cells #[gv, cv, .int .i64 M.made, fv] 66 (0, 0)) := fun W hW => by
    obtain ⟨gb, bm, fv, vs, f, hW⟩ := hW
    exact ⟨_, _, _, hW.self⟩
  obtain ⟨k, n⟩ := x
  obtain ⟨a, b⟩ := y
  obtain ⟨gv, cv, fv, hs⟩ := hself _ ((h.alloc (.cells #[.int .i64 k, .int .i64 n] 32)).alloc (.cells #[.int .i64 a, .int .i64 b] 32))
  by_cases hr : rightB M.made (a, b) = false
  · have e1 : M.storeErr (k, n) i (a, b) = 1 := by unfold PM.storeErr; rw [if_pos hr]
    rw [e1]
    clear h he e1 hself
    go_enter Try.func15, Try.ntmps15
    go_wp2_with (go_at_call 30; refine (right_any _ p _ _ _ M.made a b hs).mono ?_; rintro e w1 ⟨rfl, ho⟩)
    go_ret
    exact ⟨rfl, (((Only.refl _ _).alloc _).alloc _).trans' ho⟩
  · have hr' : rightB M.made (a, b) = true := by simpa using hr
    have e1 : M.storeErr (k, n) i (a, b) = M.err (k, n) i := by unfold PM.storeErr; rw [if_neg hr]
    rw [e1] at he ⊢
    have hq := fun W (hW : MemAt W p lab M) => field_bad hW (k, n) i he
    have hM := ((h.alloc (.cells #[.int .i64 k, .int .i64 n] 32)).alloc (.cells #[.int .i64 a, .int .i64 b] 32))
    have hbe : (M.err (k, n) i == 0) = false := by simpa using he
    generalize M.err (k, n) i = r at *
    clear h he e1 hself hr
    go_enter Try.func15, Try.ntmps15
    go_wp2_with (first
      | (go_at_call 30; refine (right_any _ p _ _ _ M.made a b hs).mono ?_; rintro e w1 ⟨rfl, ho⟩; have hb : w1.heap[w.heap.size]? = some (.cells #[.int .i64 k, .int .i64 n] 32 (0, 0)) := ho.cell (heap_alloc2_old w _ _); have hb0 : w1.cell? ⟨w.heap.size, 0, none⟩ = some (.int .i64 k) := blk_cell hb rfl; have hb1 : w1.cell? ⟨w.heap.size, 1, none⟩ = some (.int .i64 n) := blk_cell hb rfl)
      | (go_at_call 31; refine (hq _ (hM.fresh ho)).mono ?_; rintro e w2 ⟨rfl, ho2⟩))
    go_ret
    exact ⟨rfl, ((((Only.refl _ _).alloc _).alloc _).trans' ho).trans' ho2⟩

theorem put_err (M : PM) (x y : Int × Int) (i : Int) : ∀ k, k ≠ x.2 → (M.put x i y).cells k = M.cells k := fun k hk => by simp [PM.put, hk]

theorem CellIs.put {w1 : World} {lab : Lab} {k : Int} {a : Option Value} {l : List (Int × Int)} {cb j : Nat} {y : Int × Int} (hl : lab cb = some (5, k)) (hj : j < l.length)
    (ha : a = some (.agg #[.slice (some ⟨cb, 0, none⟩) l.length l.length])) (h8 : l.length ≤ 8)
    (hb1 : w1.heap[cb]? = some (.cells (((flat l).toArray.setIfInBounds (j * 2) (.int .i64 y.1)).setIfInBounds (j * 2 + 1) (.int .i64 y.2)) 32 (0, 0))) : CellIs w1 lab k a (some (l.set j y)) := by
  subst ha
  refine ⟨cb, by simp, ?_, hl, by simpa using h8⟩
  rw [hb1, ← flat_set y hj]
  simp [Nat.mul_comm]
theorem MemIs.put {w w1 : World} {p : Nat} {lab : Lab} {M : PM} {gb bm : Nat} {fv : Value} {vs : List Value} {f : Int → Option Value} (h : MemIs w p lab M gb bm fv vs f) {x : Int × Int} {l : List (Int × Int)} {cb j : Nat} (y : Int × Int)
    (hl : M.cells x.2 = some l) (hj : j < l.length) (hlab : lab cb = some (5, x.2)) (hf : f x.2 = some (.agg #[.slice (some ⟨cb, 0, none⟩) l.length l.length])) (h8 : l.length ≤ 8)
    (ho : Only w w1 fun b => b = cb)
    (hb1 : w1.heap[cb]? = some (.cells (((flat l).toArray.setIfInBounds (j * 2) (.int .i64 y.1)).setIfInBounds (j * 2 + 1) (.int .i64 y.2)) 32 (0, 0))) :
    MemIs w1 p lab (M.put x j y) gb bm fv vs f := by
  have ne : ∀ {b : Nat} {r : Nat × Int}, lab b = some r → r ≠ (5, x.2) → ¬ b = cb := by
    intro b r hr hne e
    subst e
    rw [hlab] at hr
    injection hr with hr
    exact hne hr.symm
  have n0 := ne h.lself (by simp)
  have n1 := ne h.lglob (by simp)
  have n2 := ne h.lmap (by simp)
  constructor
  · exact ho.blk h.self n0
  · exact h.lself
  · exact ho.blk h.glob n1
  · exact h.lglob
  · exact h.map.only ho n2
  · exact h.lmap
  · intro k
    by_cases hk : k = x.2
    · subst hk
      have e1 : (M.put x j y).cells x.2 = some (l.set j y) := by simp [PM.put, hl]
      rw [e1]
      exact CellIs.put hlab hj hf h8 hb1
    · rw [put_err M x y j k hk]
      exact (h.cells k).only ho fun c hc => ne hc (by simpa using hk)
  · exact ho.row h.outer fun g hg => ne (h.louter g hg) (by simp)
  · exact h.louter
  · exact h.len
  · intro i l' hi
    obtain ⟨v, h1, h2, h3⟩ := h.inner i l' hi
    exact ⟨v, h1, ho.row h2 fun g hg => ne (h3 g hg) (by simp), h3⟩
  · exact fun b hb' => Nat.lt_of_lt_of_le (h.old b hb') ho.size

theorem MemIs.fresh {w w1 : World} {p : Nat} {lab : Lab} {M : PM} {gb bm : Nat} {fv : Value} {vs : List Value} {f : Int → Option Value} (h : MemIs w p lab M gb bm fv vs f) (ho : Fresh w w1) : MemIs w1 p lab M gb bm fv vs f := h.only ho fun _ _ q => q

set_option maxRecDepth 100000 in
set_option maxHeartbeats 1000000 in
theorem store_good {w : World} {p : Nat} {lab : Lab} {M : PM} (h : MemAt w p lab M) (x y : Int × Int) (l : List (Int × Int)) (j : Nat) (he : M.err x j = 0) (hr : rightB M.made y = true) (hl : M.cells x.2 = some l) (hj : j < l.length) :
    Calls Try.prog 15 #[.pointer (some ⟨p, 0, none⟩), vv x, .int .i64 j, vv y] w fun e w' => e = .returned (.int .i64 0) ∧ MemAt w' p lab (M.put x j y) ∧ Only w w' fun b => lab b ≠ none := by
  obtain ⟨gb, bm, fv, vs, f, h⟩ := h
  obtain ⟨hr1, hk, _⟩ := err_good he
  obtain ⟨cb, hf, hb, hlab, h8⟩ := cellIs_some (h.cells x.2) hl
  have hE : ∀ W, Fresh w W → MemAt ((W.setCell ⟨cb, j * 2, none⟩ (.int .i64 y.1)).setCell ⟨cb, j * 2 + 1, none⟩ (.int .i64 y.2)) p lab (M.put x j y) ∧ Only w ((W.setCell ⟨cb, j * 2, none⟩ (.int .i64 y.1)).setCell ⟨cb, j * 2 + 1, none⟩ (.int .i64 y.2)) fun b => lab b ≠ none := by
    intro W ho
    have hs : lab cb ≠ none := by simp [hlab]
    exact ⟨⟨gb, bm, fv, vs, f, (h.fresh ho).put y hl hj hlab hf h8 (((Only.refl W (fun b => b = cb)).setCell (p := ⟨cb, j * 2, none⟩) (.inl rfl) _).setCell (p := ⟨cb, j * 2 + 1, none⟩) (.inl rfl) _) (blk_set (blk_set (ho.cell hb) _ _) _ _)⟩,
      ((ho.mono fun _ _ q => q.elim).setCell (.inl hs) _).setCell (.inl hs) _⟩
  have hfo := fun W (ho : Fresh w W) => field_ok W p bm cb l.length _ _ M.made x.1 x.2 j f (ho.cell h.self) (h.map.only ho fun q => q) hr1 (by simpa using hk) hf hj
  obtain ⟨k, n⟩ := x
  obtain ⟨a, b⟩ := y
  have hs := h.self
  have hfl : (flat l).toArray[j * 2]? = some (.int .i64 (l[j]).1) ∧ (flat l).toArray[j * 2 + 1]? = some (.int .i64 (l[j]).2) := by
    have := flat_get (List.getElem?_eq_getElem hj)
    rw [Nat.mul_comm]
    simpa using this
  have HE := Lib.hid hE
  have HO := Lib.hid hfo
  have HF := Lib.hid hfl
  have HB := Lib.hid hb
  have HS := Lib.hid hs
  clear h he hr1 hl hf hlab hE hfo hfl hb hs hk
  go_enter Try.func15, Try.ntmps15
  go_wp2_with (first
    | (go_at_call 30; refine (right_any _ p _ _ _ M.made a b (blk_alloc (blk_alloc HS.out _) _)).mono ?_; rintro e w1 ⟨rfl, ho⟩; have hb0 : w1.heap[w.heap.size]? = some (.cells #[.int .i64 k, .int .i64 n] 32 (0, 0)) := ho.cell (heap_alloc2_old w _ _); have hb1 : w1.cell? ⟨w.heap.size, 0, none⟩ = some (.int .i64 k) := blk_cell hb0 rfl; have hb2 : w1.cell? ⟨w.heap.size, 1, none⟩ = some (.int .i64 n) := blk_cell hb0 rfl; have hx0 : w1.heap[w.heap.size + 1]? = some (.cells #[.int .i64 a, .int .i64 b] 32 (0, 0)) := ho.cell (heap_alloc2_new w _ _))
    | (go_at_call 31; refine (HO.out _ ((((Only.refl _ _).alloc _).alloc _).trans' ho)).mono ?_; rintro e w2 ⟨rfl, ho2⟩; have hx1 := ho2.cell hx0; have hx2 : w2.cell? ⟨w.heap.size + 1, 0, none⟩ = some (.int .i64 a) := blk_cell hx1 rfl; have hx3 : w2.cell? ⟨w.heap.size + 1, 1, none⟩ = some (.int .i64 b) := blk_cell hx1 rfl; have hc := ho2.cell (ho.cell (blk_alloc (blk_alloc HB.out (.cells #[.int .i64 k, .int .i64 n] 32)) (.cells #[.int .i64 a, .int .i64 b] 32))); have hc0 := blk_cell hc HF.out.1; have hc1 := blk_cell hc HF.out.2; have hc2 := blk_frozen hc (j * 2); have hc3 := blk_frozen hc (j * 2 + 1)))
  go_ret
  exact ⟨rfl, HE.out w2 (((((Only.refl _ _).alloc _).alloc _).trans' ho).trans' ho2)⟩

theorem store_any {w : World} {p : Nat} {lab : Lab} {M : PM} (h : MemAt w p lab M) (x y : Int × Int) (i : Int) :
    Calls Try.prog 15 #[.pointer (some ⟨p, 0, none⟩), vv x, .int .i64 i, vv y] w fun e w' => e = .returned (.int .i64 (M.storeErr x i y)) ∧ MemAt w' p lab (M.store x i y) ∧ Only w w' fun b => lab b ≠ none := by
  by_cases he : M.storeErr x i y = 0
  · have hr : rightB M.made y = true := by
      unfold PM.storeErr at he
      split at he
      · cases he
      · rename_i hr; simpa using hr
    have he' : M.err x i = 0 := by
      unfold PM.storeErr at he
      rw [if_neg (by simp [hr])] at he
      exact he
    obtain ⟨_, _, l, hl, j, rfl, hj⟩ := err_good he'
    have e1 : M.store x j y = M.put x j y := by unfold PM.store; rw [if_pos he]
    rw [he, e1]
    exact store_good h x y l j he' hr hl hj
  · have e1 : M.store x i y = M := by unfold PM.store; rw [if_neg he]
    rw [e1]
    exact (store_bad h x i y he).mono fun e w' ⟨he, ho⟩ => ⟨he, h.fresh ho, ho.mono fun _ _ q => q.elim⟩
end Go.Proofs.Ytabfmoedbnpihaa
