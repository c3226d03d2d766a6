/- A step towards the laws on the cells of a run: several memories side by side, and a list of lists of one's own beside them. No conditions of its own beyond those that its theorems name. -/
import Derived.Test.YtabfmoedbnpihaaKApart
namespace Go.Proofs.Ytabfmoedbnpihaa
open Go.RowKit Go.MapKept

def upd {α : Type} (f : Fin 4 → α) (j : Fin 4) (x : α) : Fin 4 → α := fun i => if i = j then x else f i
theorem upd_same {α : Type} (f : Fin 4 → α) (j : Fin 4) (x : α) : upd f j x j = x := if_pos rfl
theorem upd_ne {α : Type} (f : Fin 4 → α) {i j : Fin 4} (x : α) (h : i ≠ j) : upd f j x i = f i := if_neg h

theorem Own.grown2 {w wr w4 : World} {p : Nat} {lab : Lab} {M : PM} {v : Value} (h : Own w wr p lab M) (hg : wr.grownBy w4 v.ownBlock) (hv : ∀ g, v.ownBlock = some g → lab g = none ∧ w.heap.size ≤ g) : Own w w4 p lab M :=
  ⟨h.mem.only (S := fun b => v.ownBlock = some b) (Only.of_grown hg fun _ e => e) fun b hb e => hb (hv b e).1, h.new, h.fresh.grown hg fun g e => .inr (hv g e).2⟩
/-- four memories, apart from each other -/
structure Many (w w1 : World) (P : Fin 4 → Nat) (L : Fin 4 → Lab) (M : Fin 4 → PM) : Prop where
  own : ∀ j, Own w w1 (P j) (L j) (M j)
  apart : ∀ i j, i ≠ j → ∀ c, L i c ≠ none → L j c = none
section
variable {w w1 w2 : World} {P : Fin 4 → Nat} {L : Fin 4 → Lab} {M : Fin 4 → PM}
theorem Many.keep (h : Many w w1 P L M) (f : Fresh w1 w2) : Many w w2 P L M := ⟨fun j => (h.own j).keep f, h.apart⟩
theorem Many.step (h : Many w w1 P L M) (j : Fin 4) {l2 : Lab} {M2 : PM} (ho : Own w w2 (P j) l2 M2) (hx : Ext w1 w2 (L j) l2) : Many w w2 P (upd L j l2) (upd M j M2) := by
  have far : ∀ i, i ≠ j → ∀ c, L i c ≠ none → l2 c = none := fun i hi c hc => Decidable.byContradiction fun k => by
    rcases hx.new c k with g | g
    · exact hc (h.apart j i (fun e => hi e.symm) c g)
    · have := (h.own i).old c hc
      omega
  refine ⟨fun i => ?_, fun i k hik c hc => ?_⟩
  · by_cases hi : i = j
    · subst hi
      rw [upd_same, upd_same]
      exact ho
    · rw [upd_ne _ _ hi, upd_ne _ _ hi]
      exact ⟨(h.own i).mem.only hx.only fun c hc e => hc (h.apart j i (fun e => hi e.symm) c e), (h.own i).new, ho.fresh⟩
  · by_cases hi : i = j
    · subst hi
      rw [upd_same] at hc
      rw [upd_ne _ _ (fun e => hik e.symm)]
      exact Decidable.byContradiction fun q => hc (far k (fun e => hik e.symm) c q)
    · rw [upd_ne _ _ hi] at hc
      by_cases hk : k = j
      · subst hk
        rw [upd_same]
        exact far i hi c hc
      · rw [upd_ne _ _ hk]
        exact h.apart i k hik c hc
theorem Many.fresh (h : Many w w1 P L M) : Fresh w w1 := (h.own 0).fresh
theorem Many.grown {v : Value} {w4 : World} (h : Many w w1 P L M) (hg : w1.grownBy w4 v.ownBlock) (hv : ∀ g, v.ownBlock = some g → (∀ j, L j g = none) ∧ w.heap.size ≤ g) : Many w w4 P L M :=
  ⟨fun j => (h.own j).grown2 hg fun g hg => ⟨(hv g hg).1 j, (hv g hg).2⟩, h.apart⟩
theorem Many.lt (h : Many w w1 P L M) {g : Nat} (hg : w1.heap.size ≤ g) (j : Fin 4) : L j g = none := Decidable.byContradiction fun q => by
  have := (h.own j).old g q
  omega
end

/-- four memories that were made one by one -/
theorem many_of {w w1 : World} {p q r s : Nat} {la lb lc ld : Lab} {a b c d : PM} (h0 : Own w w1 p la a) (h1 : Own w w1 q lb b) (h2 : Own w w1 r lc c) (h3 : Own w w1 s ld d)
    (h01 : ∀ c, la c ≠ none → lb c = none) (h02 : ∀ c, la c ≠ none → lc c = none) (h03 : ∀ c, la c ≠ none → ld c = none) (h12 : ∀ c, lb c ≠ none → lc c = none) (h13 : ∀ c, lb c ≠ none → ld c = none) (h23 : ∀ c, lc c ≠ none → ld c = none) :
    ∃ (P : Fin 4 → Nat) (L : Fin 4 → Lab) (M : Fin 4 → PM), P 0 = p ∧ P 1 = q ∧ P 2 = r ∧ P 3 = s ∧ M 0 = a ∧ M 1 = b ∧ M 2 = c ∧ M 3 = d ∧ Many w w1 P L M := by
  have sw : ∀ {x y : Lab}, (∀ c, x c ≠ none → y c = none) → ∀ c, y c ≠ none → x c = none := fun h c hc => Decidable.byContradiction fun q => hc (h c q)
  refine ⟨fun i => if i = 0 then p else if i = 1 then q else if i = 2 then r else s, fun i => if i = 0 then la else if i = 1 then lb else if i = 2 then lc else ld, fun i => if i = 0 then a else if i = 1 then b else if i = 2 then c else d, rfl, rfl, rfl, rfl, rfl, rfl, rfl, rfl, ?_, ?_⟩
  · intro j
    rcases j with ⟨j, hj⟩
    rcases j with _ | _ | _ | _ | j
    · exact h0
    · exact h1
    · exact h2
    · exact h3
    · omega
  · intro i j hij
    rcases i with ⟨i, hi⟩
    rcases j with ⟨j, hj⟩
    rcases i with _ | _ | _ | _ | i <;> rcases j with _ | _ | _ | _ | j <;> first | exact absurd rfl hij | omega | exact h01 | exact h02 | exact h03 | exact h12 | exact h13 | exact h23 | exact sw h01 | exact sw h02 | exact sw h03 | exact sw h12 | exact sw h13 | exact sw h23

theorem own_type {w : World} {base : Nat} {e : TypeId} {size n : Nat} {v : Value} {xs : List Value} (h : w.ownsRow base e size v n xs) {g : Nat} (hg : v.ownBlock = some g) : ∃ cs fr, w.heap[g]? = some (.cells cs e fr) := by
  rcases h.2 with ⟨rfl, _⟩ | ⟨g', cap, cur, rfl, _, q, _⟩
  · simp [Value.ownBlock] at hg
  · simp [Value.ownBlock] at hg
    subst hg
    exact ⟨_, _, q⟩

/-- a row of lists: where each lies -/
def RowAt (w wr : World) (L : Fin 4 → Lab) (v : Value) (xs : List Int) : Prop :=
  wr.ownsRow 0 3 1 v xs.length (xs.map (Value.int .i64)) ∧ ∀ g, v.ownBlock = some g → (∀ j, L j g = none) ∧ w.heap.size ≤ g
/-- a list of lists of one's own, outside the memories, its own block not below m; the lists in it lie outside the memories too -/
def LL (w wr : World) (L : Fin 4 → Lab) (m : Nat) (v : Value) (xss : List (List Int)) : Prop :=
  ∃ vs : List Value, wr.ownsRow 0 39 1 v xss.length vs ∧ (∀ g, v.ownBlock = some g → (∀ j, L j g = none) ∧ m ≤ g) ∧ vs.length = xss.length ∧ ∀ (i : Nat) (xs : List Int), xss[i]? = some xs → ∃ u, vs[i]? = some u ∧ RowAt w wr L u xs
section
variable {w wr w2 : World} {L : Fin 4 → Lab} {v u : Value} {xs : List Int} {xss : List (List Int)} {m : Nat}
theorem RowAt.only {S : Nat → Prop} (h : RowAt w wr L u xs) (ho : Only wr w2 S) (hs : ∀ g, u.ownBlock = some g → ¬ S g) : RowAt w w2 L u xs := ⟨ho.row h.1 hs, h.2⟩
theorem RowAt.fresh (h : RowAt w wr L u xs) (f : Fresh wr w2) : RowAt w w2 L u xs := h.only f fun _ _ q => q
theorem RowAt.ext (h : RowAt w wr L u xs) (j : Fin 4) {l2 : Lab} (x : Ext wr w2 (L j) l2) : RowAt w w2 (upd L j l2) u xs := by
  refine ⟨x.only.row h.1 fun g hg q => q ((h.2 g hg).1 j), fun g hg => ⟨fun i => ?_, (h.2 g hg).2⟩⟩
  by_cases hi : i = j
  · subst hi
    rw [upd_same]
    exact (x.out (b := g) ⟨(h.2 g hg).1 i, own_lt h.1 hg⟩).1
  · rw [upd_ne _ _ hi]
    exact (h.2 g hg).1 i
theorem LL.nil (w wr : World) (L : Fin 4 → Lab) (m : Nat) : LL w wr L m (.slice none 0 0) [] := ⟨[], World.ownsRow_nil _ _ _ _, fun g hg => by simp [Value.ownBlock] at hg, rfl, fun i x h => by simp at h⟩
theorem LL.fresh (h : LL w wr L m v xss) (f : Fresh wr w2) : LL w w2 L m v xss := by
  obtain ⟨vs, h1, h2, h3, h4⟩ := h
  exact ⟨vs, f.row h1 fun _ _ q => q, h2, h3, fun i xs hx => by
    obtain ⟨u, hu, hr⟩ := h4 i xs hx
    exact ⟨u, hu, hr.fresh f⟩⟩
theorem LL.ext (h : LL w wr L m v xss) (j : Fin 4) {l2 : Lab} (x : Ext wr w2 (L j) l2) : LL w w2 (upd L j l2) m v xss := by
  obtain ⟨vs, h1, h2, h3, h4⟩ := h
  refine ⟨vs, x.only.row h1 fun g hg q => q ((h2 g hg).1 j), fun g hg => ⟨fun i => ?_, (h2 g hg).2⟩, h3, fun i xs hx => by
    obtain ⟨u, hu, hr⟩ := h4 i xs hx
    exact ⟨u, hu, hr.ext j x⟩⟩
  by_cases hi : i = j
  · subst hi
    rw [upd_same]
    exact (x.out (b := g) ⟨(h2 g hg).1 i, own_lt h1 hg⟩).1
  · rw [upd_ne _ _ hi]
    exact (h2 g hg).1 i
theorem RowAt.grown {w4 : World} (h : RowAt w wr L u xs) {g0 : Option Nat} (hg : wr.grownBy w4 g0) (hne : ∀ g, g0 = some g → ∃ cs fr, wr.heap[g]? = some (.cells cs 39 fr)) : RowAt w w4 L u xs := by
  refine h.only (S := fun b => g0 = some b) (Only.of_grown hg fun _ e => e) fun g hu e => ?_
  obtain ⟨cs, fr, h1⟩ := hne g e
  obtain ⟨cs', fr', h2⟩ := own_type h.1 hu
  rw [h1] at h2
  injection h2 with h2
  injection h2 with _ h2 _
  exact absurd h2 (by decide)
theorem LL.blocks (h : LL w wr L m v xss) : ∀ g, v.ownBlock = some g → (∀ j, L j g = none) ∧ m ≤ g := by
  obtain ⟨vs, h1, h2, _⟩ := h
  exact h2
theorem LL.lt (h : LL w wr L m v xss) : ∀ g, v.ownBlock = some g → g < wr.heap.size := by
  obtain ⟨vs, h1, h2, _⟩ := h
  exact fun g hg => own_lt h1 hg
/-- a list of lists is gone on with: the memories, the other lists of lists, and what it is then -/
theorem Many.app {P : Fin 4 → Nat} {M : Fin 4 → PM} (hm : Many w wr P L M) (h : LL w wr L m v xss) (hw : w.heap.size ≤ m) (hmr : m ≤ wr.heap.size) {n : Nat} (hn : n = xss.length) (o : Obj) : ∃ vs : List Value, (wr.alloc o).ownsRow 0 39 1 v n vs ∧
    ∀ (w4 : World) (A : Option Addr) (C : Nat) (u : Value) (xs : List Int), RowAt w wr L u xs → w4.ownsRow 0 39 1 (.slice A (n + 1) C) (n + 1) (vs ++ [u]) → (wr.alloc o).grownBy w4 v.ownBlock → (A.map Addr.block = v.ownBlock ∨ A.map Addr.block = some (wr.alloc o).heap.size) →
      Many w w4 P L M ∧ LL w w4 L m (.slice A (n + 1) C) (xss ++ [xs]) ∧ wr.heap.size ≤ w4.heap.size ∧ ∀ (v' : Value) (m' : Nat) (xss' : List (List Int)), LL w wr L m' v' xss' → (∀ g, v'.ownBlock = some g → g < m) → LL w w4 L m' v' xss' := by
  subst hn
  have hb := h.blocks
  obtain ⟨vs, h1, h2, h3, h4⟩ := h.fresh (alloc_fresh wr o)
  refine ⟨vs, h1, fun w4 A C u xs hu hown hg hat => ⟨?_, ⟨vs ++ [u], by simpa using hown, fun g hgg => ?_, by simp [h3], fun i ys hy => ?_⟩, ?_, ?_⟩⟩
  · exact (hm.keep (alloc_fresh wr o)).grown hg fun g e => ⟨(hb g e).1, Nat.le_trans hw (hb g e).2⟩
  · rw [own_map] at hgg
    rcases hat with q | q
    · exact h2 g (by rw [← q, hgg])
    · rw [q] at hgg
      injection hgg with hgg
      subst hgg
      exact ⟨fun j => hm.lt (by simp) j, by simp; omega⟩
  · by_cases hi : i < xss.length
    · rw [List.getElem?_append_left hi] at hy
      obtain ⟨u', hu', hr⟩ := h4 i ys hy
      exact ⟨u', by rw [List.getElem?_append_left (by omega)]; exact hu', hr.grown hg fun g e => own_type h1 e⟩
    · have hi2 : i = xss.length := by
        have := (List.getElem?_eq_some_iff.1 hy).1
        simp at this
        omega
      subst hi2
      simp at hy
      subst hy
      refine ⟨u, ?_, (hu.fresh (alloc_fresh wr o)).grown hg fun g e => own_type h1 e⟩
      rw [← h3]
      simp
  · exact Nat.le_trans (by simp) hg.size
  · intro v' m' xss' hl hlt
    obtain ⟨vs', k1, k2, k3, k4⟩ := hl.fresh (alloc_fresh wr o)
    refine ⟨vs', (Only.of_grown (S := fun b => v.ownBlock = some b) hg fun _ e => e).row k1 (fun g hgg e => ?_), k2, k3, fun i xs hx => by
      obtain ⟨u, hu, hr⟩ := k4 i xs hx
      exact ⟨u, hu, hr.grown hg fun g e => own_type h1 e⟩⟩
    have := hlt g hgg
    have := (hb g e).2
    omega
theorem RowAt.ints {A : Option Addr} {n C : Nat} (h : RowAt w wr L (.slice A n C) xs) : n = xs.length ∧ Ints wr A xs.length xs := Lst.ints (w := w) (lab := L 0) ⟨h.1, fun g hg => ⟨(h.2 g hg).1 0, (h.2 g hg).2⟩⟩
theorem RowAt.len (h : RowAt w wr L u xs) : xs.length ≤ 9223372036854775807 := Lst.len (w := w) (la := L 0) ⟨h.1, fun g hg => ⟨(h.2 g hg).1 0, (h.2 g hg).2⟩⟩
theorem RowAt.of {wp : World} (hm : ∀ j g, wp.heap.size ≤ g → L j g = none) (hs : w.heap.size ≤ wp.heap.size) {lab : Lab} (h : Lst wp wr lab v xs) (j : Fin 4) : RowAt w wr (upd L j lab) v xs := by
  refine ⟨h.1, fun g hg => ⟨fun i => ?_, Nat.le_trans hs (h.2 g hg).2⟩⟩
  by_cases hi : i = j
  · subst hi
    rw [upd_same]
    exact (h.2 g hg).1
  · rw [upd_ne _ _ hi]
    exact hm i g (h.2 g hg).2
/-- one of the lists: where its slice stands -/
theorem LL.at {A : Option Addr} {n C : Nat} (h : LL w wr L m (.slice A n C) xss) {i : Nat} (hx : xss[i]? = some xs) : ∃ g u, A = some ⟨g, 0, none⟩ ∧ g < wr.heap.size ∧ wr.cell? ⟨g, i, none⟩ = some u ∧ RowAt w wr L u xs := by
  obtain ⟨vs, h1, h2, h3, h4⟩ := h
  obtain ⟨u, hu, hr⟩ := h4 i xs hx
  obtain ⟨g, c, e, hc, _, _⟩ := own_cell h1 hu
  injection e with e _ _
  exact ⟨g, u, e, World.block_lt_of_cell? _ _ hc, hc, hr⟩
theorem LL.all {A : Option Addr} {n C : Nat} (h : LL w wr L m (.slice A n C) xss) : n = xss.length ∧ IntsAll wr A xss.length xss := by
  have hn : n = xss.length := by
    obtain ⟨vs, h1, h2, h3, h4⟩ := h
    rcases h1.2 with ⟨q, r⟩ | ⟨g, cap, cur, q, _⟩
    · injection q with _ q _
      omega
    · injection q with _ q _
  refine ⟨hn, rfl, fun i xs hx => ?_⟩
  obtain ⟨g, u, e, hg, hc, hr⟩ := h.at hx
  obtain ⟨B, C', rfl⟩ := own_slice hr.1
  exact ⟨g, 0, e, hg, hr.len, B, C', by rw [Nat.zero_add]; exact hc, hr.ints.2⟩
end

/-- one call of one of four memories, as numbers -/
theorem Many.told {w w1 : World} {P : Fin 4 → Nat} {L : Fin 4 → Lab} {M : Fin 4 → PM} (h : Many w w1 P L M) (j : Fin 4) {p : Nat} (hp : P j = p) {Mj : PM} (hj : M j = Mj) (o : POp) (A : Option Addr) (ln cp : Nat) (hl : Ints w A ln o.cells) (hn : ln ≤ 9223372036854775807) (hd : Mj.Dom) {i : Nat} (hz : Small i Mj) (hi : i ≤ 1048576) :
    Calls Try.prog 28 #[.pointer (some ⟨p, 0, none⟩), o.val A ln cp] w1 fun e w2 => ∃ (A : Option Addr) (C : Nat) (xs : List Int) (l2 : Lab), e = .returned (.slice A xs.length C) ∧ Many w w2 P (upd L j l2) (upd M j (Mj.oneM o)) ∧ RowAt w w2 (upd L j l2) (.slice A xs.length C) xs ∧ Ext w1 w2 (L j) l2 ∧
      (∀ (os : List POp) (outs : List (List Int)), Tells os pl1 outs Mj → Tells (os ++ [o]) pl1 (outs ++ [xs]) (Mj.oneM o)) ∧ Small (i + 1) (Mj.oneM o) ∧ (Mj.oneM o).Dom ∧ w1.heap.size ≤ w2.heap.size := by
  have ho := h.own j
  rw [hp, hj] at ho
  obtain ⟨z1, z2, z3⟩ := hz.lim hi
  refine (told_any ho o A ln cp (hl.alloc h.fresh) hn hd z1 z2 z3).mono ?_
  rintro e w2 ⟨A2, n, C, ss, l2, rfl, rfl, g1, g2, hlst, ho2, hx⟩
  refine ⟨A2, C, _, l2, rfl, ?_, ?_, hx, fun os outs ht => Tells.step os o ss ht g1 g2, hz.one o, Dom.one hd o, hx.only.size⟩
  · rw [← hp] at ho2
    exact h.step j ho2 hx
  · exact RowAt.of (fun j g hg => h.lt hg j) h.fresh.size hlst j

theorem Many.push {w w1 : World} {P : Fin 4 → Nat} {L : Fin 4 → Lab} {M : Fin 4 → PM} (h : Many w w1 P L M) (j : Fin 4) {p : Nat} (hp : P j = p) (hj : M j = pl0) :
    Calls Try.prog 12 #[.pointer (some ⟨p, 0, none⟩)] w1 fun e w2 => e = .returned (.int .i64 0) ∧ ∃ l2, Many w w2 P (upd L j l2) (upd M j pl1) := by
  have ho := h.own j
  rw [hp, hj] at ho
  refine (Own.push ho (by decide)).mono ?_
  rintro e w2 ⟨rfl, l2, ho2, hx⟩
  rw [← hp] at ho2
  exact ⟨rfl, l2, h.step j ho2 hx⟩

section
variable {α : Type}
theorem turns_prefix (a b : List α) (x y : List α) : ∀ i, i ≤ a.length → i ≤ b.length → turns (a ++ x) (b ++ y) i = turns a b i
  | 0, _, _ => rfl
  | i + 1, h, k => by rw [turns, turns, turns_prefix a b x y i (by omega) (by omega), List.getElem?_append_left (by omega), List.getElem?_append_left (by omega)]
theorem turns_left (a b : List α) (x : List α) : ∀ i, i ≤ a.length → turns (a ++ x) b i = turns a b i
  | 0, _ => rfl
  | i + 1, h => by rw [turns, turns, turns_left a b x i (by omega), List.getElem?_append_left (by omega)]
theorem turns_right (a b : List α) (y : List α) : ∀ i, i ≤ b.length → turns a (b ++ y) i = turns a b i
  | 0, _ => rfl
  | i + 1, h => by rw [turns, turns, turns_right a b y i (by omega), List.getElem?_append_left (by omega)]
theorem turns_len (a b : List α) : ∀ i, (turns a b i).length ≤ 2 * i
  | 0 => Nat.le_refl _
  | i + 1 => by
    have := turns_len a b i
    rw [turns, List.length_append, List.length_append]
    have h1 : ((a[i]?).toList).length ≤ 1 := by cases a[i]? <;> simp
    have h2 : ((b[i]?).toList).length ≤ 1 := by cases b[i]? <;> simp
    omega
end
end Go.Proofs.Ytabfmoedbnpihaa
