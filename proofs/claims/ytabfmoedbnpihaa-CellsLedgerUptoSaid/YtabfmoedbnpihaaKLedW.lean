/- A step towards the laws on the cells of a run: the ledger as it lies in memory. No conditions of its own beyond those that its theorems name. -/
import Derived.Test.YtabfmoedbnpihaaKLed
namespace Go.Proofs.Ytabfmoedbnpihaa
open Go.RowKit Go.MapKept

theorem llen1 {α : Type} (l : List α) (x : α) : (l ++ [x]).length = l.length + 1 := by simp
section
variable {w w1 : World}
theorem own_setN {base : Nat} {e : TypeId} {n g c size : Nat} {xs : List Value} (h : w.ownsRow base e size (.slice (some ⟨g, 0, none⟩) n c) n xs) (i : Nat) (u : Value) :
    (w.setCell ⟨g, i, none⟩ u).ownsRow base e size (.slice (some ⟨g, 0, none⟩) n c) n (xs.set i u) := by
  refine ⟨by simpa using h.1, ?_⟩
  rcases h.2 with ⟨h0, _⟩ | ⟨g', cap, cur, hv, hb, hg, hn, hm, hs, ht⟩
  · cases h0
  · injection hv with h1 _ h3
    injection h1 with h1
    injection h1 with h1 _ _
    subst h1; subst h3
    refine .inr ⟨g, c, _, rfl, hb, blk_set hg i u, hn, hm, by simpa using hs, ?_⟩
    rw [← ht]
    simp only [Array.toList_setIfInBounds, List.take_set]
theorem own_cellN {base : Nat} {e : TypeId} {n size : Nat} {v : Value} {xs : List Value} (h : w.ownsRow base e size v n xs) {i : Nat} {x : Value} (hx : xs[i]? = some x) :
    ∃ g c, v = .slice (some ⟨g, 0, none⟩) n c ∧ g < w.heap.size ∧ w.cell? ⟨g, i, none⟩ = some x ∧ ∀ j, w.frozen? ⟨g, j, none⟩ = false := by
  rcases h.2 with ⟨_, rfl⟩ | ⟨g, cap, cur, rfl, _, hg, _, _, _, ht⟩
  · have := h.1
    have hl := (List.getElem?_eq_some_iff.1 hx).1
    omega
  · refine ⟨g, cap, rfl, blk_lt hg, ?_, fun j => blk_frozen hg j⟩
    refine blk_cell hg ?_
    rw [← ht] at hx
    rw [List.getElem?_take] at hx
    split at hx
    · rw [← Array.getElem?_toList]
      exact hx
    · cases hx
end

/-- the labels of the ledger's blocks: 0 itself, 1 its list, (2, i) the fields of the i-th -/
def MadeIs (w : World) (ll : Lab) (i : Nat) (cs : List Value) (m : PMade) (B D : Nat) : Prop :=
  cs[i * 5]? = some (.int .i64 m.number) ∧ cs[i * 5 + 1]? = some (.slice (some ⟨B, 0, none⟩) m.fields.length D) ∧ cs[i * 5 + 2]? = some (.int .i64 m.depth) ∧ cs[i * 5 + 3]? = some (.bool m.heap) ∧ cs[i * 5 + 4]? = some (.bool m.there) ∧
    w.ownsRow 0 32 2 (.slice (some ⟨B, 0, none⟩) m.fields.length D) m.fields.length (flat m.fields) ∧ ll B = some (2, (i : Int))
structure LedIs (w : World) (q : Nat) (ll : Lab) (p : Nat) (L : PL) (A : Option Addr) (C : Nat) (cs : List Value) : Prop where
  self : w.heap[q]? = some (.cells #[.pointer (some ⟨p, 0, none⟩), .int .i64 L.depth, .slice A L.all.length C] 46 (0, 0))
  lself : ll q = some (0, 0)
  row : w.ownsRow 0 80 5 (.slice A L.all.length C) L.all.length cs
  lrow : ∀ g, A.map Addr.block = some g → ll g = some (1, 0)
  made : ∀ (i : Nat) m, L.all[i]? = some m → ∃ B D, MadeIs w ll i cs m B D
  old : ∀ b, ll b ≠ none → b < w.heap.size
def LedAt (w : World) (q : Nat) (ll : Lab) (p : Nat) (L : PL) : Prop := ∃ A C cs, LedIs w q ll p L A C cs

section
variable {w w1 w2 : World} {q p : Nat} {ll : Lab} {L : PL} {A : Option Addr} {C : Nat} {cs : List Value}
theorem MadeIs.only {S : Nat → Prop} {i : Nat} {m : PMade} {B D : Nat} (h : MadeIs w ll i cs m B D) (ho : Only w w2 S) (hs : ∀ b, ll b ≠ none → ¬ S b) : MadeIs w2 ll i cs m B D := by
  obtain ⟨h0, h1, h2, h3, h4, h5, h6⟩ := h
  exact ⟨h0, h1, h2, h3, h4, ho.row h5 (fun g hg => by
    simp [Value.ownBlock] at hg
    subst hg
    exact hs _ (by simp [h6])), h6⟩
theorem LedIs.only {S : Nat → Prop} (h : LedIs w q ll p L A C cs) (ho : Only w w2 S) (hs : ∀ b, ll b ≠ none → ¬ S b) : LedIs w2 q ll p L A C cs where
  self := ho.blk h.self (hs q (by simp [h.lself]))
  lself := h.lself
  row := ho.row h.row fun g hg => hs g (by rw [own_map] at hg; simp [h.lrow g hg])
  lrow := h.lrow
  made := fun i m hi => by
    obtain ⟨B, D, hm⟩ := h.made i m hi
    exact ⟨B, D, hm.only ho hs⟩
  old := fun b hb => Nat.lt_of_lt_of_le (h.old b hb) ho.size
theorem LedAt.only {S : Nat → Prop} (h : LedAt w q ll p L) (ho : Only w w2 S) (hs : ∀ b, ll b ≠ none → ¬ S b) : LedAt w2 q ll p L := by
  obtain ⟨A, C, cs, h⟩ := h
  exact ⟨A, C, cs, h.only ho hs⟩
/-- what is read of the ledger -/
theorem LedIs.at (h : LedIs w q ll p L A C cs) {i : Nat} {m : PMade} (hi : L.all[i]? = some m) : ∃ g B D, A = some ⟨g, 0, none⟩ ∧ g < w.heap.size ∧ w.cell? ⟨g, i * 5, none⟩ = some (.int .i64 m.number) ∧ w.cell? ⟨g, i * 5 + 1, none⟩ = some (.slice (some ⟨B, 0, none⟩) m.fields.length D) ∧
    w.cell? ⟨g, i * 5 + 2, none⟩ = some (.int .i64 m.depth) ∧ w.cell? ⟨g, i * 5 + 3, none⟩ = some (.bool m.heap) ∧ w.cell? ⟨g, i * 5 + 4, none⟩ = some (.bool m.there) ∧ (∀ j, w.frozen? ⟨g, j, none⟩ = false) ∧ ll g = some (1, 0) ∧ MadeIs w ll i cs m B D := by
  obtain ⟨B, D, hm⟩ := h.made i m hi
  have hm' := hm
  obtain ⟨h0, h1, h2, h3, h4, h5, h6⟩ := hm
  obtain ⟨g, c, e, hg, k0, kf⟩ := own_cellN h.row h0
  injection e with e _ e2
  subst e
  subst e2
  have at' : ∀ {j x}, cs[j]? = some x → w.cell? ⟨g, j, none⟩ = some x := fun hx => by
    obtain ⟨g', c', e, _, k, _⟩ := own_cellN h.row hx
    injection e with e _ _
    injection e with e
    injection e with e _ _
    subst e
    exact k
  exact ⟨g, B, D, rfl, hg, k0, at' h1, at' h2, at' h3, at' h4, kf, h.lrow g rfl, hm'⟩
theorem MadeIs.field {i : Nat} {m : PMade} {B D : Nat} (h : MadeIs w ll i cs m B D) {f : Nat} {x : Int × Int} (hf : m.fields[f]? = some x) : B < w.heap.size ∧ w.cell? ⟨B, f * 2, none⟩ = some (.int .i64 x.1) ∧ w.cell? ⟨B, f * 2 + 1, none⟩ = some (.int .i64 x.2) ∧ ∀ j, w.frozen? ⟨B, j, none⟩ = false := by
  obtain ⟨_, _, _, _, _, h5, _⟩ := h
  obtain ⟨f0, f1⟩ := flat_get hf
  rw [Nat.mul_comm] at f0 f1
  obtain ⟨g, c, e, hg, k0, kf⟩ := own_cellN h5 f0
  injection e with e _ _
  injection e with e
  injection e with e _ _
  subst e
  obtain ⟨g, c, e, _, k1, _⟩ := own_cellN h5 f1
  injection e with e _ _
  injection e with e
  injection e with e _ _
  subst e
  exact ⟨hg, k0, k1, kf⟩
theorem set_get {l : List Value} {i j : Nat} {u x : Value} (h : l[j]? = some x) (hij : i ≠ j) : (l.set i u)[j]? = some x := by
  rw [List.getElem?_set_ne hij]; exact h
theorem set_at {l : List Value} {i : Nat} {u x : Value} (h : l[i]? = some x) : (l.set i u)[i]? = some u := by
  rw [List.getElem?_set]; simp [(List.getElem?_eq_some_iff.1 h).1]
theorem ll_ne {x y : Nat} {r s : Nat × Int} (hx : ll x = some r) (hy : ll y = some s) (hrs : r ≠ s) : x ≠ y := fun e => by
  rw [e, hy] at hx
  injection hx with hx
  exact hrs hx.symm
/-- a word of one of the cells in the ledger is written: its depth (2), or whether it is there (4) -/
theorem LedIs.word (h : LedIs w q ll p L A C cs) {i : Nat} {m m' : PMade} (hi : L.all[i]? = some m) {g : Nat} (hA : A = some ⟨g, 0, none⟩) (k : Nat) (u : Value)
    (hk : (k = 2 ∧ u = .int .i64 m'.depth ∧ m' = { m with depth := m'.depth }) ∨ (k = 4 ∧ u = .bool m'.there ∧ m' = { m with there := m'.there })) :
    LedIs (w.setCell ⟨g, i * 5 + k, none⟩ u) q ll p ⟨L.depth, L.all.set i m'⟩ A C (cs.set (i * 5 + k) u) := by
  subst hA
  have hlg := h.lrow g rfl
  have ho : Only w (w.setCell ⟨g, i * 5 + k, none⟩ u) fun b => b = g := (Only.refl w (fun b => b = g)).setCell (p := ⟨g, i * 5 + k, none⟩) (.inl rfl) u
  have hk5 : k < 5 ∧ 2 ≤ k := by rcases hk with ⟨rfl, _⟩ | ⟨rfl, _⟩ <;> omega
  refine ⟨?_, h.lself, ?_, h.lrow, fun j mj hj => ?_, fun b hb => by simpa using h.old b hb⟩
  · simp only [List.length_set]
    exact ho.blk h.self (ll_ne h.lself hlg (by simp))
  · simp only [List.length_set]
    exact own_setN h.row _ u
  · dsimp only at hj
    rcases set_cases hj with ⟨rfl, rfl⟩ | ⟨hne, hj'⟩
    · obtain ⟨B, D, h0, h1, h2, h3, h4, h5, h6⟩ := h.made j m hi
      have hB : B ≠ g := ll_ne h6 hlg (by simp)
      have hr := ho.row h5 (fun b hb e => hB (by simp [Value.ownBlock] at hb; rw [hb, e]))
      refine ⟨B, D, ?_⟩
      rcases hk with ⟨rfl, rfl, hm⟩ | ⟨rfl, rfl, hm⟩
      · rw [hm]
        exact ⟨set_get h0 (by omega), set_get h1 (by omega), set_at h2, set_get h3 (by omega), set_get h4 (by omega), hr, h6⟩
      · rw [hm]
        exact ⟨set_get h0 (by omega), set_get h1 (by omega), set_get h2 (by omega), set_get h3 (by omega), set_at h4, hr, h6⟩
    · obtain ⟨B, D, h0, h1, h2, h3, h4, h5, h6⟩ := h.made j mj hj'
      have hB : B ≠ g := ll_ne h6 hlg (by simp)
      have hr := ho.row h5 (fun b hb e => hB (by simp [Value.ownBlock] at hb; rw [hb, e]))
      exact ⟨B, D, set_get h0 (by omega), set_get h1 (by omega), set_get h2 (by omega), set_get h3 (by omega), set_get h4 (by omega), hr, h6⟩
/-- a field of one of the cells in the ledger is written -/
theorem LedIs.put (h : LedIs w q ll p L A C cs) {i : Nat} {m : PMade} (hi : L.all[i]? = some m) {B D : Nat} (hm : MadeIs w ll i cs m B D) {f : Nat} (hf : f < m.fields.length) (x : Int × Int) :
    LedIs ((w.setCell ⟨B, f * 2, none⟩ (.int .i64 x.1)).setCell ⟨B, f * 2 + 1, none⟩ (.int .i64 x.2)) q ll p (L.put i m f x) A C cs := by
  obtain ⟨m0, m1, m2, m3, m4, m5, m6⟩ := hm
  have ho : Only w ((w.setCell ⟨B, f * 2, none⟩ (.int .i64 x.1)).setCell ⟨B, f * 2 + 1, none⟩ (.int .i64 x.2)) fun b => b = B := ((Only.refl w (fun b => b = B)).setCell (p := ⟨B, f * 2, none⟩) (.inl rfl) _).setCell (p := ⟨B, f * 2 + 1, none⟩) (.inl rfl) _
  refine ⟨?_, h.lself, ?_, h.lrow, fun j mj hj => ?_, fun b hb => by simpa using h.old b hb⟩
  · simp only [PL.put, List.length_set]
    exact ho.blk h.self (ll_ne h.lself m6 (by simp))
  · simp only [PL.put, List.length_set]
    refine ho.row h.row fun g hg e => ?_
    rw [own_map] at hg
    exact ll_ne (h.lrow g hg) m6 (by simp) e
  · simp only [PL.put] at hj
    rcases set_cases hj with ⟨rfl, rfl⟩ | ⟨hne, hj'⟩
    · refine ⟨B, D, m0, by simpa using m1, m2, m3, m4, ?_, m6⟩
      have hr := own_setN (own_setN m5 (f * 2) (.int .i64 x.1)) (f * 2 + 1) (.int .i64 x.2)
      rw [Nat.mul_comm f 2, flat_set x hf] at hr
      rw [Nat.mul_comm f 2]
      simpa using hr
    · obtain ⟨B', D', h0, h1, h2, h3, h4, h5, h6⟩ := h.made j mj hj'
      have hB : B' ≠ B := ll_ne h6 m6 (by simp; omega)
      exact ⟨B', D', h0, h1, h2, h3, h4, ho.row h5 (fun b hb e => hB (by simp [Value.ownBlock] at hb; rw [hb, e])), h6⟩
/-- the depth is written -/
theorem LedIs.deep (h : LedIs w q ll p L A C cs) (d : Nat) : LedIs (w.setCell ⟨q, 1, none⟩ (.int .i64 d)) q ll p ⟨d, L.all⟩ A C cs := by
  have ho : Only w (w.setCell ⟨q, 1, none⟩ (.int .i64 d)) fun b => b = q := (Only.refl w (fun b => b = q)).setCell (p := ⟨q, 1, none⟩) (.inl rfl) _
  refine ⟨blk_set h.self 1 _, h.lself, ho.row h.row fun g hg e => ?_, h.lrow, fun j mj hj => ?_, fun b hb => by simpa using h.old b hb⟩
  · rw [own_map] at hg
    exact ll_ne (h.lrow g hg) h.lself (by simp) e
  · obtain ⟨B', D', h0, h1, h2, h3, h4, h5, h6⟩ := h.made j mj hj
    have hB : B' ≠ q := ll_ne h6 h.lself (by simp)
    exact ⟨B', D', h0, h1, h2, h3, h4, ho.row h5 (fun b hb e => hB (by simp [Value.ownBlock] at hb; rw [hb, e])), h6⟩
/-- one cell more in the ledger -/
theorem LedIs.grow {w3 : World} {A3 : Option Addr} {C3 : Nat} {m : PMade} {B D : Nat} (h : LedIs w q ll p L A C cs)
    (hown : w3.ownsRow 0 80 5 (.slice A3 (L.all.length + 1) C3) (L.all.length + 1) (cs ++ [.int .i64 m.number, .slice (some ⟨B, 0, none⟩) m.fields.length D, .int .i64 m.depth, .bool m.heap, .bool m.there]))
    (hg : w.grownBy w3 (A.map Addr.block)) (hat : A3.map Addr.block = A.map Addr.block ∨ ∃ g, w.heap.size ≤ g ∧ A3.map Addr.block = some g)
    (hB : ll B = none) (hr : w.ownsRow 0 32 2 (.slice (some ⟨B, 0, none⟩) m.fields.length D) m.fields.length (flat m.fields)) :
    ∃ ll2, LedIs (w3.setCell ⟨q, 2, none⟩ (.slice A3 (L.all.length + 1) C3)) q ll2 p ⟨L.depth, L.all ++ [m]⟩ A3 C3 (cs ++ [.int .i64 m.number, .slice (some ⟨B, 0, none⟩) m.fields.length D, .int .i64 m.depth, .bool m.heap, .bool m.there]) ∧
      (∀ b, ll2 b ≠ none → ll b ≠ none ∨ b = B ∨ w.heap.size ≤ b) := by
  have hqB : B < w.heap.size := own_lt hr (g := B) rfl
  have hAq : ∀ g, A.map Addr.block = some g → g ≠ q := fun g hgg => ll_ne (h.lrow g hgg) h.lself (by simp)
  have hAB : ∀ g, A.map Addr.block = some g → g ≠ B := fun g hgg e => by
    have := h.lrow g hgg
    rw [e, hB] at this
    cases this
  have hl5 := h.row.1
  have hBl : L.all.length ≠ 0 ∨ True := .inr trivial
  have ho : Only w (w3.setCell ⟨q, 2, none⟩ (.slice A3 (L.all.length + 1) C3)) fun b => b = q ∨ A.map Addr.block = some b :=
    ((Only.of_grown (S := fun b => b = q ∨ A.map Addr.block = some b) hg fun g e => .inr e)).setCell (p := ⟨q, 2, none⟩) (.inl (.inl rfl)) _
  have hq3 : A3.map Addr.block ≠ some q := fun e => by
    rcases hat with k | ⟨g, hgg, k⟩
    · exact hAq q (by rw [← k, e]) rfl
    · rw [e] at k
      injection k with k
      have := blk_lt h.self
      omega
  have hB3 : A3.map Addr.block ≠ some B := fun e => by
    rcases hat with k | ⟨g, hgg, k⟩
    · exact hAB B (by rw [← k, e]) rfl
    · rw [e] at k
      injection k with k
      omega
  have hlow : ∀ {b : Nat}, ll b ≠ none → A3.map Addr.block = some b → A.map Addr.block = some b := fun hb e => by
    rcases hat with k | ⟨g, hgg, k⟩
    · rw [← k, e]
    · rw [e] at k
      injection k with k
      have := h.old _ hb
      omega
  let ll2 : Lab := fun b => if A3.map Addr.block = some b then some (1, 0) else if b = B then some (2, (L.all.length : Int)) else ll b
  have l2B : ll2 B = some (2, (L.all.length : Int)) := by
    show (if A3.map Addr.block = some B then _ else _) = _
    rw [if_neg hB3, if_pos rfl]
  have l2keep : ∀ {b r}, ll b = some r → ll2 b = some r := fun {b r} hb => by
    show (if A3.map Addr.block = some b then _ else _) = _
    by_cases e : A3.map Addr.block = some b
    · rw [if_pos e]
      have := h.lrow b (hlow (by simp [hb]) e)
      rw [hb] at this
      exact this.symm
    · rw [if_neg e, if_neg (fun e2 => by rw [e2, hB] at hb; cases hb)]
      exact hb
  have l2new : ∀ b, ll2 b ≠ none → ll b ≠ none ∨ b = B ∨ (A3.map Addr.block = some b) := fun b hb => by
    have hb' : (if A3.map Addr.block = some b then some (1, 0) else if b = B then some (2, (L.all.length : Int)) else ll b) ≠ none := hb
    split at hb'
    · rename_i e
      exact .inr (.inr e)
    · split at hb'
      · rename_i e
        exact .inr (.inl e)
      · exact .inl hb'
  refine ⟨ll2, ⟨?_, l2keep h.lself, ?_, fun g hgg => by show (if A3.map Addr.block = some g then _ else _) = _; rw [if_pos hgg], fun j mj hj => ?_, fun b hb => ?_⟩, fun b hb => ?_⟩
  · simp only [List.length_append, List.length_cons, List.length_nil, Nat.zero_add]
    exact blk_set (blk_grown h.self hg (fun e => hAq q e.symm rfl)) 2 _
  · simp only [List.length_append, List.length_cons, List.length_nil, Nat.zero_add]
    exact own_far hown (a := ⟨q, 2, none⟩) (by rw [own_map]; exact hq3) _
  · dsimp only at hj
    by_cases hlt : j < L.all.length
    · rw [List.getElem?_append_left hlt] at hj
      obtain ⟨B', D', h0, h1, h2, h3, h4, h5, h6⟩ := h.made j mj hj
      have hcs : ∀ {k x}, cs[k]? = some x → ∀ r, (cs ++ r)[k]? = some x := fun hx r => by rw [List.getElem?_append_left (List.getElem?_eq_some_iff.1 hx).1]; exact hx
      refine ⟨B', D', hcs h0 _, hcs h1 _, hcs h2 _, hcs h3 _, hcs h4 _, ho.row h5 (fun b hb e => ?_), l2keep h6⟩
      simp [Value.ownBlock] at hb
      subst hb
      rcases e with e | e
      · exact ll_ne h6 h.lself (by simp) e
      · exact ll_ne (h.lrow _ e) h6 (by simp) rfl
    · have he : j = L.all.length := by
        have := (List.getElem?_eq_some_iff.1 hj).1
        simp at this
        omega
      subst he
      simp at hj
      subst hj
      have e0 : L.all.length * 5 = cs.length := hl5.symm
      refine ⟨B, D, ?_, ?_, ?_, ?_, ?_, ho.row hr (fun b hb e => ?_), l2B⟩
      · rw [e0]; simp
      · rw [e0, List.getElem?_append_right (by omega)]; simp
      · rw [e0, List.getElem?_append_right (by omega)]; simp
      · rw [e0, List.getElem?_append_right (by omega)]; simp
      · rw [e0, List.getElem?_append_right (by omega)]; simp
      · simp [Value.ownBlock] at hb
        subst hb
        rcases e with e | e
        · rw [e, h.lself] at hB
          cases hB
        · exact hAB _ e rfl
  · have hs : w.heap.size ≤ w3.heap.size := hg.size
    have : b < w3.heap.size := by
      rcases l2new b hb with k | rfl | k
      · exact Nat.lt_of_lt_of_le (h.old b k) hs
      · exact Nat.lt_of_lt_of_le hqB hs
      · exact own_lt hown (g := b) (by rw [own_map]; exact k)
    simpa using this
  · rcases l2new b hb with k | k | k
    · exact .inl k
    · exact .inr (.inl k)
    · by_cases hbb : ll b = none
      · rcases hat with e | ⟨g, hgg, e⟩
        · exact .inl (by rw [h.lrow b (by rw [← e, k])]; simp)
        · rw [k] at e
          injection e with e
          exact .inr (.inr (by omega))
      · exact .inl hbb
end

/-- the memory and its ledger, apart -/
structure Shadow (w0 w : World) (p q : Nat) (lab ll : Lab) (M : PM) (L : PL) : Prop where
  own : Own w0 w p lab M
  led : LedAt w q ll p L
  new : ∀ b, ll b ≠ none → w0.heap.size ≤ b ∧ lab b = none
section
variable {w0 w w2 : World} {p q : Nat} {lab ll lab2 : Lab} {M M2 : PM} {L L2 : PL}
theorem Shadow.keep (h : Shadow w0 w p q lab ll M L) (f : Fresh w w2) : Shadow w0 w2 p q lab ll M L := ⟨h.own.keep f, h.led.only f fun _ _ q => q, h.new⟩
theorem Shadow.mem (h : Shadow w0 w p q lab ll M L) (ho : Own w0 w2 p lab2 M2) (hx : Ext w w2 lab lab2) : Shadow w0 w2 p q lab2 ll M2 L := by
  obtain ⟨A, C, cs, hl⟩ := h.led
  exact ⟨ho, ⟨A, C, cs, hl.only hx.only fun b hb e => e (h.new b hb).2⟩, fun b hb => ⟨(h.new b hb).1, (hx.out (b := b) ⟨(h.new b hb).2, hl.old b hb⟩).1⟩⟩
/-- the ledger alone is written -/
theorem Shadow.wrote (h : Shadow w0 w p q lab ll M L) (ho : Only w w2 fun b => ll b ≠ none) (hl : LedAt w2 q ll p L2) : Shadow w0 w2 p q lab ll M L2 :=
  ⟨⟨h.own.mem.only ho fun b hb e => hb (h.new b e).2, h.own.new, h.own.fresh.trans ho fun b e => .inr (h.new b e).1⟩, hl, h.new⟩
theorem Shadow.fresh (h : Shadow w0 w p q lab ll M L) : Fresh w0 w := h.own.fresh
end
end Go.Proofs.Ytabfmoedbnpihaa
