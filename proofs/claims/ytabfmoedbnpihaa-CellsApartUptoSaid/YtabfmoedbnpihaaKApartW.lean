/- A step towards the laws on the cells of a run: the walk of CellsApart. No conditions of its own beyond those that its theorems name. -/
import Derived.Test.YtabfmoedbnpihaaKMany
namespace Go.Proofs.Ytabfmoedbnpihaa
open Go.RowKit Go.MapKept

/-- ahead of the i-th turn of the first loop -/
structure Ap1 (w : World) (P : Fin 4 → Nat) (os1 os2 : List POp) (i : Nat) (L : Fin 4 → Lab) (M : Fin 4 → PM) (a b : PM) (o1 o2 G : List (List Int)) (v : Value) (wr : World) : Prop where
  many : Many w wr P L M
  m0 : M 0 = a
  m1 : M 1 = b
  m2 : M 2 = pl1
  m3 : M 3 = pl1
  t1 : Tells (os1.take i) pl1 o1 a
  t2 : Tells (os2.take i) pl1 o2 b
  z1 : Small i a
  z2 : Small i b
  d1 : a.Dom
  d2 : b.Dom
  g : G = turns o1 o2 i
  ll : LL w wr L w.heap.size v G
def ApR1 (w : World) (P : Fin 4 → Nat) (os1 os2 : List POp) (s10 s11 : Value) (wr : World) : Prop :=
  ∃ (i : Nat) (L : Fin 4 → Lab) (M : Fin 4 → PM) (a b : PM) (o1 o2 G : List (List Int)) (A : Option Addr) (C : Nat), (i ≤ os1.length ∨ i ≤ os2.length) ∧ s10 = .slice A G.length C ∧ s11 = .int .i64 i ∧ Ap1 w P os1 os2 i L M a b o1 o2 G (.slice A G.length C) wr
/-- ahead of the i-th call of the second and the third loop: to memory j -/
structure Ap2 (w : World) (P : Fin 4 → Nat) (os : List POp) (j : Fin 4) (i m : Nat) (L : Fin 4 → Lab) (M : Fin 4 → PM) (a : PM) (o G : List (List Int)) (v vg : Value) (wr : World) : Prop where
  many : Many w wr P L M
  mj : M j = a
  t : Tells (os.take i) pl1 o a
  z : Small i a
  d : a.Dom
  ll : LL w wr L m v o
  lg : LL w wr L w.heap.size vg G
  m0 : w.heap.size ≤ m
  m1 : m ≤ wr.heap.size
def ApR2 (w : World) (P : Fin 4 → Nat) (os : List POp) (m : Nat) (G : List (List Int)) (vg s14 s16 : Value) (wr : World) : Prop :=
  ∃ (i : Nat) (L : Fin 4 → Lab) (M : Fin 4 → PM) (a : PM) (o : List (List Int)) (A : Option Addr) (C : Nat), i ≤ os.length ∧ s14 = .slice A o.length C ∧ s16 = .int .i64 i ∧ M 3 = pl1 ∧ Ap2 w P os 2 i m L M a o G (.slice A o.length C) vg wr
def ApR3 (w : World) (P : Fin 4 → Nat) (os : List POp) (m m1 : Nat) (G F : List (List Int)) (vg vf s15 s18 : Value) (wr : World) : Prop :=
  ∃ (i : Nat) (L : Fin 4 → Lab) (M : Fin 4 → PM) (a : PM) (o : List (List Int)) (A : Option Addr) (C : Nat), i ≤ os.length ∧ s15 = .slice A o.length C ∧ s18 = .int .i64 i ∧ LL w wr L m1 vf F ∧ Ap2 w P os 3 i m L M a o G (.slice A o.length C) vg wr
/-- ahead of the i-th turn of the last loop -/
structure Ap4 (w : World) (P : Fin 4 → Nat) (m m1 m2 : Nat) (L : Fin 4 → Lab) (M : Fin 4 → PM) (G F S W : List (List Int)) (vg vf vs v : Value) (wr : World) : Prop where
  many : Many w wr P L M
  lg : LL w wr L w.heap.size vg G
  lf : LL w wr L m1 vf F
  ls : LL w wr L m2 vs S
  ll : LL w wr L m v W
  m1 : m ≤ wr.heap.size
def ApR4 (w : World) (P : Fin 4 → Nat) (m m1 m2 N : Nat) (L : Fin 4 → Lab) (M : Fin 4 → PM) (G F S : List (List Int)) (vg vf vs s20 s21 : Value) (wr : World) : Prop :=
  ∃ (i : Nat) (W : List (List Int)) (A : Option Addr) (C : Nat), i ≤ N ∧ s20 = .slice A W.length C ∧ s21 = .int .i64 i ∧ W = turns F S i ∧ Ap4 w P m m1 m2 L M G F S W vg vf vs (.slice A W.length C) wr

theorem ops_at {w : World} {A : Option Addr} {n : Nat} {xs : List InOp} (hv : Ops w A n xs) {i : Nat} (hi : i < n) : ∃ x b o, xs[i]? = some x ∧ A = some ⟨b, o, none⟩ ∧ b < w.heap.size ∧
    (∀ wr, Fresh w wr → wr.cell? ⟨b, o + i * 9, none⟩ = some (.int .i64 x.o.kind) ∧ wr.cell? ⟨b, o + i * 9 + 1, none⟩ = some (.int .i64 x.o.on) ∧ wr.cell? ⟨b, o + i * 9 + 2, none⟩ = some (.int .i64 x.o.n) ∧
    wr.cell? ⟨b, o + i * 9 + 3, none⟩ = some (.bool x.o.heap) ∧ wr.cell? ⟨b, o + i * 9 + 4, none⟩ = some (.int .i64 x.o.v.1) ∧ wr.cell? ⟨b, o + i * 9 + 5, none⟩ = some (.int .i64 x.o.v.2) ∧
    wr.cell? ⟨b, o + i * 9 + 6, none⟩ = some (.int .i64 x.o.w.1) ∧ wr.cell? ⟨b, o + i * 9 + 7, none⟩ = some (.int .i64 x.o.w.2) ∧ wr.cell? ⟨b, o + i * 9 + 8, none⟩ = some (.slice x.B x.ln x.cp) ∧ b < wr.heap.size) ∧
    Ints w x.B x.ln x.o.cells ∧ x.ln ≤ 9223372036854775807 := by
  obtain ⟨x, hx⟩ : ∃ x, xs[i]? = some x := ⟨xs[i]'(by have := hv.1; omega), List.getElem?_eq_getElem _⟩
  obtain ⟨b, o, ha, hb, e0, e1, e2, e3, e4, e5, e6, e7, e8, g1, g2⟩ := hv.2 i x hx
  refine ⟨x, b, o, hx, ha, hb, fun wr f => ?_, g1, g2⟩
  rw [Fresh.cel f hb, Fresh.cel f hb, Fresh.cel f hb, Fresh.cel f hb, Fresh.cel f hb, Fresh.cel f hb, Fresh.cel f hb, Fresh.cel f hb, Fresh.cel f hb]
  exact ⟨e0, e1, e2, e3, e4, e5, e6, e7, e8, Nat.lt_of_lt_of_le hb f.size⟩
theorem infoLL : (Try.prog.info? 39).map (fun i => (i.zero, i.size, i.bytes)) = some (some (.slice none 0 0), 1, 24) := infoInts
theorem take_next {os : List POp} {i : Nat} {o : POp} (h : os[i]? = some o) : os.take (i + 1) = os.take i ++ [o] := by
  have hl := (List.getElem?_eq_some_iff.1 h).1
  rw [List.take_add_one, h]
  rfl
theorem take_end {os : List POp} {i : Nat} (h : ¬ i < os.length) : os.take (i + 1) = os.take i := by
  rw [List.take_of_length_le (by omega), List.take_of_length_le (by omega)]
theorem told_len {os : List POp} {i : Nat} {o : List (List Int)} {a : PM} (h : Tells (os.take i) pl1 o a) : o.length = min i os.length := by
  rw [Tells.len _ h]
  simp
section
variable {w wr w4 : World} {P : Fin 4 → Nat} {os1 os2 : List POp} {i : Nat} {L L4 : Fin 4 → Lab} {M M4 : Fin 4 → PM} {a b a4 b4 : PM} {o1 o2 G : List (List Int)} {v v4 : Value} {x1 x2 : POp} {y1 y2 : List Int}
theorem Ap1.both (h : Ap1 w P os1 os2 i L M a b o1 o2 G v wr) (k1 : os1[i]? = some x1) (k2 : os2[i]? = some x2) (hm : Many w w4 P L4 M4) (m0 : M4 0 = a4) (m1 : M4 1 = b4) (m2 : M4 2 = pl1) (m3 : M4 3 = pl1)
    (t1 : Tells (os1.take i ++ [x1]) pl1 (o1 ++ [y1]) a4) (t2 : Tells (os2.take i ++ [x2]) pl1 (o2 ++ [y2]) b4) (z1 : Small (i + 1) a4) (z2 : Small (i + 1) b4) (d1 : a4.Dom) (d2 : b4.Dom) (hl : LL w w4 L4 w.heap.size v4 (G ++ [y1] ++ [y2])) :
    Ap1 w P os1 os2 (i + 1) L4 M4 a4 b4 (o1 ++ [y1]) (o2 ++ [y2]) (G ++ [y1] ++ [y2]) v4 w4 := by
  have e1 := told_len h.t1
  have e2 := told_len h.t2
  have h1 := (List.getElem?_eq_some_iff.1 k1).1
  have h2 := (List.getElem?_eq_some_iff.1 k2).1
  refine ⟨hm, m0, m1, m2, m3, by rw [take_next k1]; exact t1, by rw [take_next k2]; exact t2, z1, z2, d1, d2, ?_, hl⟩
  rw [turns, turns_prefix _ _ _ _ i (by omega) (by omega), ← h.g]
  rw [show (o1 ++ [y1])[i]? = some y1 by rw [show i = o1.length by omega]; simp, show (o2 ++ [y2])[i]? = some y2 by rw [show i = o2.length by omega]; simp]
  rfl
theorem Ap1.left (h : Ap1 w P os1 os2 i L M a b o1 o2 G v wr) (k1 : os1[i]? = some x1) (k2 : ¬ i < os2.length) (hm : Many w w4 P L4 M4) (m0 : M4 0 = a4) (m1 : M4 1 = b) (m2 : M4 2 = pl1) (m3 : M4 3 = pl1)
    (t1 : Tells (os1.take i ++ [x1]) pl1 (o1 ++ [y1]) a4) (z1 : Small (i + 1) a4) (d1 : a4.Dom) (hl : LL w w4 L4 w.heap.size v4 (G ++ [y1])) :
    Ap1 w P os1 os2 (i + 1) L4 M4 a4 b (o1 ++ [y1]) o2 (G ++ [y1]) v4 w4 := by
  have e1 := told_len h.t1
  have e2 := told_len h.t2
  have h1 := (List.getElem?_eq_some_iff.1 k1).1
  refine ⟨hm, m0, m1, m2, m3, by rw [take_next k1]; exact t1, by rw [take_end k2]; exact h.t2, z1, h.z2.mono (by omega), d1, h.d2, ?_, hl⟩
  rw [turns, turns_left _ _ _ i (by omega), ← h.g]
  rw [show (o1 ++ [y1])[i]? = some y1 by rw [show i = o1.length by omega]; simp, show o2[i]? = none by rw [List.getElem?_eq_none_iff]; omega]
  simp
theorem Ap1.right (h : Ap1 w P os1 os2 i L M a b o1 o2 G v wr) (k1 : ¬ i < os1.length) (k2 : os2[i]? = some x2) (hm : Many w w4 P L4 M4) (m0 : M4 0 = a) (m1 : M4 1 = b4) (m2 : M4 2 = pl1) (m3 : M4 3 = pl1)
    (t2 : Tells (os2.take i ++ [x2]) pl1 (o2 ++ [y2]) b4) (z2 : Small (i + 1) b4) (d2 : b4.Dom) (hl : LL w w4 L4 w.heap.size v4 (G ++ [y2])) :
    Ap1 w P os1 os2 (i + 1) L4 M4 a b4 o1 (o2 ++ [y2]) (G ++ [y2]) v4 w4 := by
  have e1 := told_len h.t1
  have e2 := told_len h.t2
  have h2 := (List.getElem?_eq_some_iff.1 k2).1
  refine ⟨hm, m0, m1, m2, m3, by rw [take_end k1]; exact h.t1, by rw [take_next k2]; exact t2, h.z1.mono (by omega), z2, h.d1, d2, ?_, hl⟩
  rw [turns, turns_right _ _ _ i (by omega), ← h.g]
  rw [show (o2 ++ [y2])[i]? = some y2 by rw [show i = o2.length by omega]; simp, show o1[i]? = none by rw [List.getElem?_eq_none_iff]; omega]
  simp
theorem Ap2.next {j : Fin 4} {m : Nat} {vg : Value} (h : Ap2 w P os1 j i m L M a o1 G v vg wr) (k1 : os1[i]? = some x1) (hm : Many w w4 P L4 M4) (m0 : M4 j = a4) (t1 : Tells (os1.take i ++ [x1]) pl1 (o1 ++ [y1]) a4) (z1 : Small (i + 1) a4) (d1 : a4.Dom)
    (hl : LL w w4 L4 m v4 (o1 ++ [y1])) (hg : LL w w4 L4 w.heap.size vg G) (hs : wr.heap.size ≤ w4.heap.size) : Ap2 w P os1 j (i + 1) m L4 M4 a4 (o1 ++ [y1]) G v4 vg w4 :=
  ⟨hm, m0, by rw [take_next k1]; exact t1, z1, d1, hl, hg, h.m0, Nat.le_trans h.m1 hs⟩
end
theorem len1 {α : Type} (l : List α) (x : α) : (l ++ [x]).length = l.length + 1 := by simp
theorem len2 {α : Type} (l : List α) (x y : α) : (l ++ [x] ++ [y]).length = l.length + 1 + 1 := by simp
theorem Ap1.len {w wr : World} {P : Fin 4 → Nat} {os1 os2 : List POp} {i : Nat} {L : Fin 4 → Lab} {M : Fin 4 → PM} {a b : PM} {o1 o2 G : List (List Int)} {v : Value} (h : Ap1 w P os1 os2 i L M a b o1 o2 G v wr) : G.length ≤ 2 * i := by
  rw [h.g]
  exact turns_len _ _ _

set_option maxRecDepth 200000 in
set_option maxHeartbeats 8000000 in
theorem apart_walk (w : World) (A B : Option Addr) (n1 n2 CA CB : Nat) (xs ys : List InOp) (hv : Ops w A n1 xs) (hu : Ops w B n2 ys) (hn1 : n1 ≤ 1048576) (hn2 : n2 ≤ 1048576) :
    Calls Try.prog 9 #[.slice A n1 CA, .slice B n2 CB] w fun e w' => e = .returned (.bool true) ∧ Fresh w w' := by
  have HV := Lib.hid hv
  have HU := Lib.hid hu
  have HX := Lib.hid (show (xs.map InOp.o).length = n1 by rw [List.length_map]; exact hv.1)
  have HY := Lib.hid (show (ys.map InOp.o).length = n2 by rw [List.length_map]; exact hu.1)
  clear hv hu
  obtain ⟨i0, hin, hz0', hz1', hz2'⟩ := info_parts infoLL
  have HIN := Lib.hid (And.intro hin (And.intro hz0' (And.intro hz1' hz2')))
  clear hin hz0' hz1' hz2'
  go_enter Try.func9, Try.ntmps9
  go_wp2_with fail
  refine (fixed_any w).mono ?_
  rintro e w0 ⟨rfl, F0⟩
  have HF0 := Lib.hid F0
  clear F0
  go_wp2_with fail
  refine (own_new w w0 HF0.out 2).mono ?_
  rintro e w1 ⟨p, la, rfl, Oa, _, Na⟩
  have HA := Lib.hid Oa
  clear Oa Na
  go_wp2_with fail
  refine (own_new w w1 HA.out.fresh 2).mono ?_
  rintro e w2 ⟨q, lb, rfl, Ob, Fb, Nb⟩
  have HB := Lib.hid (And.intro Ob (And.intro Fb Nb))
  clear Ob Fb Nb
  go_wp2_with fail
  refine (own_new w w2 HB.out.1.fresh 2).mono ?_
  rintro e w3 ⟨r, lc, rfl, Oc, Fc, Nc⟩
  have HC := Lib.hid (And.intro Oc (And.intro Fc Nc))
  clear Oc Fc Nc
  go_wp2_with fail
  refine (own_new w w3 HC.out.1.fresh 2).mono ?_
  rintro e w4 ⟨s, ld, rfl, Od, Fd, Nd⟩
  have HM0 := Lib.hid (show ∃ (P : Fin 4 → Nat) (L : Fin 4 → Lab) (M : Fin 4 → PM), P 0 = p ∧ P 1 = q ∧ P 2 = r ∧ P 3 = s ∧ M 0 = pl0 ∧ M 1 = pl0 ∧ M 2 = pl0 ∧ M 3 = pl0 ∧ Many w w4 P L M from by
    have s1 := HB.out.2.1.size
    have s2 := HC.out.2.1.size
    refine many_of (((HA.out.keep HB.out.2.1).keep HC.out.2.1).keep Fd) ((HB.out.1.keep HC.out.2.1).keep Fd) (HC.out.1.keep Fd) Od ?_ ?_ ?_ ?_ ?_ ?_
    all_goals
      intro c hc
      refine Decidable.byContradiction fun k => ?_
      have a1 := HA.out.old c
      have b1 := HB.out.1.old c
      have c1 := HC.out.1.old c
      have b2 := HB.out.2.2 c
      have c2 := HC.out.2.2 c
      have d2 := Nd c
      first | (have := a1 hc; have := b2 k; omega) | (have := a1 hc; have := c2 k; omega) | (have := a1 hc; have := d2 k; omega) | (have := b1 hc; have := c2 k; omega) | (have := b1 hc; have := d2 k; omega) | (have := c1 hc; have := d2 k; omega))
  clear Od Fd Nd HA HB HC
  obtain ⟨P, L, M, hp0, hp1, hp2, hp3, hm0, hm1, hm2, hm3, hmany⟩ := HM0.out
  have HP := Lib.hid (And.intro hp0 (And.intro hp1 (And.intro hp2 hp3)))
  have HQ := Lib.hid (And.intro hm0 (And.intro hm1 (And.intro hm2 (And.intro hm3 hmany))))
  clear HM0 hp0 hp1 hp2 hp3 hm0 hm1 hm2 hm3 hmany
  go_wp2_with fail
  refine (HQ.out.2.2.2.2.push 0 HP.out.1 HQ.out.1).mono ?_
  rintro e w5 ⟨rfl, l0, T5⟩
  have HT5 := Lib.hid T5
  clear T5
  go_wp2_with fail
  refine (HT5.out.push 1 HP.out.2.1 (by rw [upd_ne _ _ (by decide)]; exact HQ.out.2.1)).mono ?_
  rintro e w6 ⟨rfl, l1, T6⟩
  have HT6 := Lib.hid T6
  clear T6 HT5
  go_wp2_with fail
  refine (HT6.out.push 2 HP.out.2.2.1 (by rw [upd_ne _ _ (by decide), upd_ne _ _ (by decide)]; exact HQ.out.2.2.1)).mono ?_
  rintro e w7 ⟨rfl, l2, T7⟩
  have HT7 := Lib.hid T7
  clear T7 HT6
  go_wp2_with fail
  refine (HT7.out.push 3 HP.out.2.2.2 (by rw [upd_ne _ _ (by decide), upd_ne _ _ (by decide), upd_ne _ _ (by decide)]; exact HQ.out.2.2.2.1)).mono ?_
  rintro e w8 ⟨rfl, l3, T8⟩
  have HT8 := Lib.hid (show ∃ (L : Fin 4 → Lab) (M : Fin 4 → PM), M 0 = pl1 ∧ M 1 = pl1 ∧ M 2 = pl1 ∧ M 3 = pl1 ∧ Many w w8 P L M from
    ⟨_, _, by rw [upd_ne _ _ (by decide), upd_ne _ _ (by decide), upd_ne _ _ (by decide), upd_same], by rw [upd_ne _ _ (by decide), upd_ne _ _ (by decide), upd_same], by rw [upd_ne _ _ (by decide), upd_same], upd_same _ _ _, T8⟩)
  clear T8 HT7 HQ
  go_wp2_with fail
  go_loopw [10, 11] (fun s10 s11 wr => ApR1 w P (xs.map InOp.o) (ys.map InOp.o) s10 s11 wr) (fun _ s11 _ => max n1 n2 - (intOf s11).toNat)
  case atStart =>
    obtain ⟨L, M, h0, h1, h2, h3, hm⟩ := HT8.out
    exact ⟨0, L, M, pl1, pl1, [], [], [], none, 0, .inl (Nat.zero_le _), rfl, rfl, hm, h0, h1, h2, h3, ⟨rfl, rfl⟩, ⟨rfl, rfl⟩, pl1_small, pl1_small, pl1_dom, pl1_dom, rfl, LL.nil _ _ _ _⟩
  case round =>
    clear HT8
    obtain ⟨i, L, M, a, b, o1, o2, G, A1, C1, hi, rfl, rfl, T⟩ := hrel
    rw [HX.out, HY.out] at hi
    have HT := Lib.hid T
    clear T

    have hi8 : i ≤ 1048576 := by omega
    have hgl := HT.out.len
    have hgl2 : G.length ≤ 2097152 := by omega
    clear hgl
    have HI := Lib.hid hi
    clear hi
    by_cases h1 : i < n1
    · skip
      have hxa := h1
      obtain ⟨xa, bxa, oxa, hx, rfl, hbx, hcx, hix, hlx⟩ := ops_at HV.out hxa
      have HXIa := Lib.hid (show (xs.map InOp.o)[i]? = some xa.o by rw [List.getElem?_map, hx]; rfl)
      have HCXa := Lib.hid hcx
      have HIXa := Lib.hid (And.intro hix hlx)
      clear hx hcx hix hlx hbx hxa
      obtain ⟨⟨ka, ona, ma, heapa, ⟨v0a, v1a⟩, ⟨y0a, y1a⟩, csa⟩, Ba, lna, cpa⟩ := xa
      have d1 : decide ((i : Int) < n1) = true := by simp; omega
      have d1b : decide (i < n1) = true := by simp; omega
      obtain ⟨e0, e1, e2, e3, e4, e5, e6, e7, e8, hbw⟩ := HCXa.out wr HT.out.many.fresh
      dsimp only at e0 e1 e2 e3 e4 e5 e6 e7 e8 hbw
      have HCTa := Lib.hid (HT.out.many.told 0 HP.out.1 HT.out.m0 ⟨ka, ona, ma, heapa, (v0a, v1a), (y0a, y1a), csa⟩ Ba lna cpa HIXa.out.1 HIXa.out.2 HT.out.d1 HT.out.z1 hi8)
      go_wp2_with fail
      refine HCTa.out.mono ?_
      clear e0 e1 e2 e3 e4 e5 e6 e7 e8 hbw HCTa
      rintro e wa ⟨Aa, Ca, ta, la, rfl, Q1, Q2, Q3, Q4, Q5, Q6, Q7⟩
      have HQa := Lib.hid (And.intro Q1 (And.intro Q2 (And.intro Q3 (And.intro Q4 (And.intro Q5 (And.intro Q6 Q7))))))
      clear Q1 Q2 Q3 Q4 Q5 Q6 Q7
      obtain ⟨vsa, hvs, happ⟩ := HQa.out.1.app (HT.out.ll.ext 0 HQa.out.2.2.1) (Nat.le_refl _) (Nat.le_trans HT.out.many.fresh.size HQa.out.2.2.2.2.2.2) (n := G.length) rfl (.cells #[.slice Aa ta.length Ca] 39)
      have HAPa := Lib.hid (And.intro hvs happ)
      clear hvs happ
      by_cases h2 : i < n2
      · skip
        have d2 : decide ((i : Int) < n2) = true := by simp; omega
        have d2b : decide (i < n2) = true := by simp; omega
        go_wp2_with (at_builtin; go_must (refine wpl_app _ rfl _ _ 60 rfl 0 39 i0 (.slice none 0 0) 1 24 Try.underlying60 HIN.out.1 HIN.out.2.1 HIN.out.2.2.1 HIN.out.2.2.2 rfl (by decide) (.slice A1 G.length C1) G.length vsa rfl HAPa.out.1 wa.heap.size 1 1 [.slice Aa ta.length Ca] 39 (0, 0) rfl (new_blk _) rfl (by simp [Value.oneCell']) (by unfold maxLen; omega) (by omega) (Nat.zero_le _) ?_); intro ANa CNa wb hown hgrow hat; have HWa := Lib.hid (HAPa.out.2 _ _ _ _ _ HQa.out.2.1 hown hgrow hat); clear hown hgrow hat)
        have hxb := h2
        obtain ⟨xb, bxb, oxb, hx, rfl, hbx, hcx, hix, hlx⟩ := ops_at HU.out hxb
        have HXIb := Lib.hid (show (ys.map InOp.o)[i]? = some xb.o by rw [List.getElem?_map, hx]; rfl)
        have HCXb := Lib.hid hcx
        have HIXb := Lib.hid (And.intro hix hlx)
        clear hx hcx hix hlx hbx hxb
        obtain ⟨⟨kb, onb, mb, heapb, ⟨v0b, v1b⟩, ⟨y0b, y1b⟩, csb⟩, Bb, lnb, cpb⟩ := xb
        obtain ⟨e0, e1, e2, e3, e4, e5, e6, e7, e8, hbw⟩ := HCXb.out wb HWa.out.1.fresh
        dsimp only at e0 e1 e2 e3 e4 e5 e6 e7 e8 hbw
        have HCTb := Lib.hid (HWa.out.1.told 1 HP.out.2.1 (by rw [upd_ne _ _ (by decide)]; exact HT.out.m1) ⟨kb, onb, mb, heapb, (v0b, v1b), (y0b, y1b), csb⟩ Bb lnb cpb HIXb.out.1 HIXb.out.2 HT.out.d2 HT.out.z2 hi8)
        go_wp2_with fail
        refine HCTb.out.mono ?_
        clear e0 e1 e2 e3 e4 e5 e6 e7 e8 hbw HCTb
        rintro e wc ⟨Ab, Cb, tb, lb, rfl, Q1, Q2, Q3, Q4, Q5, Q6, Q7⟩
        have HQb := Lib.hid (And.intro Q1 (And.intro Q2 (And.intro Q3 (And.intro Q4 (And.intro Q5 (And.intro Q6 Q7))))))
        clear Q1 Q2 Q3 Q4 Q5 Q6 Q7
        obtain ⟨vsb, hvs, happ⟩ := HQb.out.1.app (HWa.out.2.1.ext 1 HQb.out.2.2.1) (Nat.le_refl _) (Nat.le_trans HWa.out.1.fresh.size HQb.out.2.2.2.2.2.2) (n := (G.length + 1)) (len1 _ _).symm (.cells #[.slice Ab tb.length Cb] 39)
        have HAPb := Lib.hid (And.intro hvs happ)
        clear hvs happ
        go_wp2_with (at_builtin; go_must (refine wpl_app _ rfl _ _ 60 rfl 0 39 i0 (.slice none 0 0) 1 24 Try.underlying60 HIN.out.1 HIN.out.2.1 HIN.out.2.2.1 HIN.out.2.2.2 rfl (by decide) (.slice ANa (G.length + 1) CNa) (G.length + 1) vsb rfl HAPb.out.1 wc.heap.size 1 1 [.slice Ab tb.length Cb] 39 (0, 0) rfl (new_blk _) rfl (by simp [Value.oneCell']) (by unfold maxLen; omega) (by omega) (Nat.zero_le _) ?_); intro ANb CNb wd hown hgrow hat; have HWb := Lib.hid (HAPb.out.2 _ _ _ _ _ HQb.out.2.1 hown hgrow hat); clear hown hgrow hat)
        go_roundw
        case rel =>
          have HF := HT.out.both HXIa.out HXIb.out HWb.out.1 (by rw [upd_ne _ _ (by decide), upd_same]) (by rw [upd_same]) (by rw [upd_ne _ _ (by decide), upd_ne _ _ (by decide)]; exact HT.out.m2) (by rw [upd_ne _ _ (by decide), upd_ne _ _ (by decide)]; exact HT.out.m3) (HQa.out.2.2.2.1 _ _ HT.out.t1) (HQb.out.2.2.2.1 _ _ HT.out.t2) HQa.out.2.2.2.2.1 HQb.out.2.2.2.2.1 HQa.out.2.2.2.2.2.1 HQb.out.2.2.2.2.2.1 HWb.out.2.1
          rw [← len2 G ta tb] at HF
          exact ⟨i + 1, _, _, _, _, _, _, _, ANb, CNb, .inl (by rw [HX.out]; omega), by rw [len2], by go_num, HF⟩
        case measure => simp [intOf]; omega
      · skip
        have d2 : decide ((i : Int) < n2) = false := by simp; omega
        have d2b : decide (i < n2) = false := by simp; omega
        go_wp2_with (at_builtin; go_must (refine wpl_app _ rfl _ _ 60 rfl 0 39 i0 (.slice none 0 0) 1 24 Try.underlying60 HIN.out.1 HIN.out.2.1 HIN.out.2.2.1 HIN.out.2.2.2 rfl (by decide) (.slice A1 G.length C1) G.length vsa rfl HAPa.out.1 wa.heap.size 1 1 [.slice Aa ta.length Ca] 39 (0, 0) rfl (new_blk _) rfl (by simp [Value.oneCell']) (by unfold maxLen; omega) (by omega) (Nat.zero_le _) ?_); intro ANa CNa wb hown hgrow hat; have HWa := Lib.hid (HAPa.out.2 _ _ _ _ _ HQa.out.2.1 hown hgrow hat); clear hown hgrow hat)
        go_roundw
        case rel =>
          have HF := HT.out.left HXIa.out (by rw [HY.out]; exact h2) HWa.out.1 (by rw [upd_same]) (by rw [upd_ne _ _ (by decide)]; exact HT.out.m1) (by rw [upd_ne _ _ (by decide)]; exact HT.out.m2) (by rw [upd_ne _ _ (by decide)]; exact HT.out.m3) (HQa.out.2.2.2.1 _ _ HT.out.t1) HQa.out.2.2.2.2.1 HQa.out.2.2.2.2.2.1 HWa.out.2.1
          rw [← len1 G ta] at HF
          exact ⟨i + 1, _, _, _, _, _, _, _, ANa, CNa, .inl (by rw [HX.out]; omega), by rw [len1], by go_num, HF⟩
        case measure => simp [intOf]; omega
    · skip
      have d1 : decide ((i : Int) < n1) = false := by simp; omega
      have d1b : decide (i < n1) = false := by simp; omega
      by_cases h2 : i < n2
      · skip
        have d2 : decide ((i : Int) < n2) = true := by simp; omega
        have d2b : decide (i < n2) = true := by simp; omega
        have hxb := h2
        obtain ⟨xb, bxb, oxb, hx, rfl, hbx, hcx, hix, hlx⟩ := ops_at HU.out hxb
        have HXIb := Lib.hid (show (ys.map InOp.o)[i]? = some xb.o by rw [List.getElem?_map, hx]; rfl)
        have HCXb := Lib.hid hcx
        have HIXb := Lib.hid (And.intro hix hlx)
        clear hx hcx hix hlx hbx hxb
        obtain ⟨⟨kb, onb, mb, heapb, ⟨v0b, v1b⟩, ⟨y0b, y1b⟩, csb⟩, Bb, lnb, cpb⟩ := xb
        obtain ⟨e0, e1, e2, e3, e4, e5, e6, e7, e8, hbw⟩ := HCXb.out wr HT.out.many.fresh
        dsimp only at e0 e1 e2 e3 e4 e5 e6 e7 e8 hbw
        have HCTb := Lib.hid (HT.out.many.told 1 HP.out.2.1 HT.out.m1 ⟨kb, onb, mb, heapb, (v0b, v1b), (y0b, y1b), csb⟩ Bb lnb cpb HIXb.out.1 HIXb.out.2 HT.out.d2 HT.out.z2 hi8)
        go_wp2_with fail
        refine HCTb.out.mono ?_
        clear e0 e1 e2 e3 e4 e5 e6 e7 e8 hbw HCTb
        rintro e wc ⟨Ab, Cb, tb, lb, rfl, Q1, Q2, Q3, Q4, Q5, Q6, Q7⟩
        have HQb := Lib.hid (And.intro Q1 (And.intro Q2 (And.intro Q3 (And.intro Q4 (And.intro Q5 (And.intro Q6 Q7))))))
        clear Q1 Q2 Q3 Q4 Q5 Q6 Q7
        obtain ⟨vsb, hvs, happ⟩ := HQb.out.1.app (HT.out.ll.ext 1 HQb.out.2.2.1) (Nat.le_refl _) (Nat.le_trans HT.out.many.fresh.size HQb.out.2.2.2.2.2.2) (n := G.length) rfl (.cells #[.slice Ab tb.length Cb] 39)
        have HAPb := Lib.hid (And.intro hvs happ)
        clear hvs happ
        go_wp2_with (at_builtin; go_must (refine wpl_app _ rfl _ _ 60 rfl 0 39 i0 (.slice none 0 0) 1 24 Try.underlying60 HIN.out.1 HIN.out.2.1 HIN.out.2.2.1 HIN.out.2.2.2 rfl (by decide) (.slice A1 G.length C1) G.length vsb rfl HAPb.out.1 wc.heap.size 1 1 [.slice Ab tb.length Cb] 39 (0, 0) rfl (new_blk _) rfl (by simp [Value.oneCell']) (by unfold maxLen; omega) (by omega) (Nat.zero_le _) ?_); intro ANb CNb wd hown hgrow hat; have HWb := Lib.hid (HAPb.out.2 _ _ _ _ _ HQb.out.2.1 hown hgrow hat); clear hown hgrow hat)
        go_roundw
        case rel =>
          have HF := HT.out.right (by rw [HX.out]; exact h1) HXIb.out HWb.out.1 (by rw [upd_ne _ _ (by decide)]; exact HT.out.m0) (by rw [upd_same]) (by rw [upd_ne _ _ (by decide)]; exact HT.out.m2) (by rw [upd_ne _ _ (by decide)]; exact HT.out.m3) (HQb.out.2.2.2.1 _ _ HT.out.t2) HQb.out.2.2.2.2.1 HQb.out.2.2.2.2.2.1 HWb.out.2.1
          rw [← len1 G tb] at HF
          exact ⟨i + 1, _, _, _, _, _, _, _, ANb, CNb, .inr (by rw [HY.out]; omega), by rw [len1], by go_num, HF⟩
        case measure => simp [intOf]; omega
      · skip
        have d2 : decide ((i : Int) < n2) = false := by simp; omega
        have d2b : decide (i < n2) = false := by simp; omega
        have HE := Lib.hid (show i = max n1 n2 by have := HI.out; omega)
        go_wp2_with fail
        clear h1 h2 d1 d1b d2 d2b
        go_loopw [14, 16] (fun s14 s16 wr2 => ApR2 w P (xs.map InOp.o) wr.heap.size G (.slice A1 G.length C1) s14 s16 wr2) (fun _ s16 _ => n1 - (intOf s16).toNat)
        case atStart => exact ⟨0, L, M, pl1, [], none, 0, Nat.zero_le _, rfl, rfl, HT.out.m3, HT.out.many, HT.out.m2, ⟨rfl, rfl⟩, pl1_small, pl1_dom, LL.nil _ _ _ _, HT.out.ll, HT.out.many.fresh.size, Nat.le_refl _⟩
        case round =>
          obtain ⟨k2, L2, M2, a2, f1, A2, C2, hk2, rfl, rfl, hm3, T2⟩ := hrel
          rw [HX.out] at hk2
          have HT2 := Lib.hid T2
          have HM3 := Lib.hid hm3
          have hf1 : f1.length = k2 := by rw [told_len T2.t, HX.out]; omega
          have HF1 := Lib.hid hf1
          have hfl : f1.length ≤ 1048576 := by omega
          have hi8 : k2 ≤ 1048576 := by omega
          clear T2 hm3 hf1
          by_cases hk : k2 < n1
          · have d1 : decide ((k2 : Int) < n1) = true := by simp; omega
            have d1b : decide (k2 < n1) = true := by simp; omega
            have hxc := hk
            obtain ⟨xc, bxc, oxc, hx, rfl, hbx, hcx, hix, hlx⟩ := ops_at HV.out hxc
            have HXIc := Lib.hid (show (xs.map InOp.o)[k2]? = some xc.o by rw [List.getElem?_map, hx]; rfl)
            have HCXc := Lib.hid hcx
            have HIXc := Lib.hid (And.intro hix hlx)
            clear hx hcx hix hlx hbx hxc
            obtain ⟨⟨kc, onc, mc, heapc, ⟨v0c, v1c⟩, ⟨y0c, y1c⟩, csc⟩, Bc, lnc, cpc⟩ := xc
            obtain ⟨e0, e1, e2, e3, e4, e5, e6, e7, e8, hbw⟩ := HCXc.out wr HT2.out.many.fresh
            dsimp only at e0 e1 e2 e3 e4 e5 e6 e7 e8 hbw
            have HCTc := Lib.hid (HT2.out.many.told 2 HP.out.2.2.1 HT2.out.mj ⟨kc, onc, mc, heapc, (v0c, v1c), (y0c, y1c), csc⟩ Bc lnc cpc HIXc.out.1 HIXc.out.2 HT2.out.d HT2.out.z hi8)
            go_wp2_with fail
            refine HCTc.out.mono ?_
            clear e0 e1 e2 e3 e4 e5 e6 e7 e8 hbw HCTc
            rintro e we ⟨Ac, Cc, tc, lc, rfl, Q1, Q2, Q3, Q4, Q5, Q6, Q7⟩
            have HQc := Lib.hid (And.intro Q1 (And.intro Q2 (And.intro Q3 (And.intro Q4 (And.intro Q5 (And.intro Q6 Q7))))))
            clear Q1 Q2 Q3 Q4 Q5 Q6 Q7
            obtain ⟨vsc, hvs, happ⟩ := HQc.out.1.app (HT2.out.ll.ext 2 HQc.out.2.2.1) HT2.out.m0 (Nat.le_trans HT2.out.m1 HQc.out.2.2.2.2.2.2) (n := f1.length) rfl (.cells #[.slice Ac tc.length Cc] 39)
            have HAPc := Lib.hid (And.intro hvs happ)
            clear hvs happ
            go_wp2_with (at_builtin; go_must (refine wpl_app _ rfl _ _ 60 rfl 0 39 i0 (.slice none 0 0) 1 24 Try.underlying60 HIN.out.1 HIN.out.2.1 HIN.out.2.2.1 HIN.out.2.2.2 rfl (by decide) (.slice A2 f1.length C2) f1.length vsc rfl HAPc.out.1 we.heap.size 1 1 [.slice Ac tc.length Cc] 39 (0, 0) rfl (new_blk _) rfl (by simp [Value.oneCell']) (by unfold maxLen; omega) (by omega) (Nat.zero_le _) ?_); intro ANc CNc wf hown hgrow hat; have HWc := Lib.hid (HAPc.out.2 _ _ _ _ _ HQc.out.2.1 hown hgrow hat); clear hown hgrow hat)
            go_roundw
            case rel =>
              have HF := HT2.out.next HXIc.out HWc.out.1 (by rw [upd_same]) (HQc.out.2.2.2.1 _ _ HT2.out.t) HQc.out.2.2.2.2.1 HQc.out.2.2.2.2.2.1 HWc.out.2.1 (HWc.out.2.2.2 _ _ _ (HT2.out.lg.ext 2 HQc.out.2.2.1) (HT.out.ll.lt)) (Nat.le_trans HQc.out.2.2.2.2.2.2 HWc.out.2.2.1)
              rw [← len1 f1 tc] at HF
              exact ⟨k2 + 1, _, _, _, _, ANc, CNc, by rw [HX.out]; omega, by rw [len1], by go_num, by rw [upd_ne _ _ (by decide)]; exact HM3.out, HF⟩
            case measure => simp [intOf]; omega
          · have d1 : decide ((k2 : Int) < n1) = false := by simp; omega
            have d1b : decide (k2 < n1) = false := by simp; omega
            obtain rfl : k2 = n1 := by omega
            go_wp2_with fail
            clear hk d1 d1b hi8 hk2
            have HS1 := Lib.hid HT2.out.many.fresh.size
            go_loopw [15, 18] (fun s15 s18 wr2 => ApR3 w P (ys.map InOp.o) wr.heap.size _ G f1 (.slice A1 G.length C1) (.slice A2 f1.length C2) s15 s18 wr2) (fun _ s18 _ => n2 - (intOf s18).toNat)
            case atStart => exact ⟨0, L2, M2, pl1, [], none, 0, Nat.zero_le _, rfl, rfl, HT2.out.ll, HT2.out.many, HM3.out, ⟨rfl, rfl⟩, pl1_small, pl1_dom, LL.nil _ _ _ _, HT2.out.lg, HT2.out.many.fresh.size, Nat.le_refl _⟩
            case round =>
              obtain ⟨k3, L3, M3, a3, f2, A3, C3, hk3, rfl, rfl, hlf, T3⟩ := hrel
              rw [HY.out] at hk3
              have HT3 := Lib.hid T3
              have HLF := Lib.hid hlf
              have hf2 : f2.length = k3 := by rw [told_len T3.t, HY.out]; omega
              have HF2 := Lib.hid hf2
              have hfl2 : f2.length ≤ 1048576 := by omega
              have hi8 : k3 ≤ 1048576 := by omega
              clear T3 hlf hf2
              by_cases hk : k3 < n2
              · have d1 : decide ((k3 : Int) < n2) = true := by simp; omega
                have d1b : decide (k3 < n2) = true := by simp; omega
                have hxd := hk
                obtain ⟨xd, bxd, oxd, hx, rfl, hbx, hcx, hix, hlx⟩ := ops_at HU.out hxd
                have HXId := Lib.hid (show (ys.map InOp.o)[k3]? = some xd.o by rw [List.getElem?_map, hx]; rfl)
                have HCXd := Lib.hid hcx
                have HIXd := Lib.hid (And.intro hix hlx)
                clear hx hcx hix hlx hbx hxd
                obtain ⟨⟨kd, ond, md, heapd, ⟨v0d, v1d⟩, ⟨y0d, y1d⟩, csd⟩, Bd, lnd, cpd⟩ := xd
                obtain ⟨e0, e1, e2, e3, e4, e5, e6, e7, e8, hbw⟩ := HCXd.out wr HT3.out.many.fresh
                dsimp only at e0 e1 e2 e3 e4 e5 e6 e7 e8 hbw
                have HCTd := Lib.hid (HT3.out.many.told 3 HP.out.2.2.2 HT3.out.mj ⟨kd, ond, md, heapd, (v0d, v1d), (y0d, y1d), csd⟩ Bd lnd cpd HIXd.out.1 HIXd.out.2 HT3.out.d HT3.out.z hi8)
                go_wp2_with fail
                refine HCTd.out.mono ?_
                clear e0 e1 e2 e3 e4 e5 e6 e7 e8 hbw HCTd
                rintro e wg ⟨Ad, Cd, td, ld, rfl, Q1, Q2, Q3, Q4, Q5, Q6, Q7⟩
                have HQd := Lib.hid (And.intro Q1 (And.intro Q2 (And.intro Q3 (And.intro Q4 (And.intro Q5 (And.intro Q6 Q7))))))
                clear Q1 Q2 Q3 Q4 Q5 Q6 Q7
                obtain ⟨vsd, hvs, happ⟩ := HQd.out.1.app (HT3.out.ll.ext 3 HQd.out.2.2.1) HT3.out.m0 (Nat.le_trans HT3.out.m1 HQd.out.2.2.2.2.2.2) (n := f2.length) rfl (.cells #[.slice Ad td.length Cd] 39)
                have HAPd := Lib.hid (And.intro hvs happ)
                clear hvs happ
                go_wp2_with (at_builtin; go_must (refine wpl_app _ rfl _ _ 60 rfl 0 39 i0 (.slice none 0 0) 1 24 Try.underlying60 HIN.out.1 HIN.out.2.1 HIN.out.2.2.1 HIN.out.2.2.2 rfl (by decide) (.slice A3 f2.length C3) f2.length vsd rfl HAPd.out.1 wg.heap.size 1 1 [.slice Ad td.length Cd] 39 (0, 0) rfl (new_blk _) rfl (by simp [Value.oneCell']) (by unfold maxLen; omega) (by omega) (Nat.zero_le _) ?_); intro ANd CNd wh hown hgrow hat; have HWd := Lib.hid (HAPd.out.2 _ _ _ _ _ HQd.out.2.1 hown hgrow hat); clear hown hgrow hat)
                go_roundw
                case rel =>
                  have HF := HT3.out.next HXId.out HWd.out.1 (by rw [upd_same]) (HQd.out.2.2.2.1 _ _ HT3.out.t) HQd.out.2.2.2.2.1 HQd.out.2.2.2.2.2.1 HWd.out.2.1 (HWd.out.2.2.2 _ _ _ (HT3.out.lg.ext 3 HQd.out.2.2.1) (HT2.out.lg.lt)) (Nat.le_trans HQd.out.2.2.2.2.2.2 HWd.out.2.2.1)
                  rw [← len1 f2 td] at HF
                  exact ⟨k3 + 1, _, _, _, _, ANd, CNd, by rw [HY.out]; omega, by rw [len1], by go_num, HWd.out.2.2.2 _ _ _ (HLF.out.ext 3 HQd.out.2.2.1) (HT2.out.ll.lt), HF⟩
                case measure => simp [intOf]; omega
              · have d1 : decide ((k3 : Int) < n2) = false := by simp; omega
                have d1b : decide (k3 < n2) = false := by simp; omega
                obtain rfl : k3 = n2 := by omega
                go_wp2_with fail
                clear hk d1 d1b hi8 hk3
                have HFO := Lib.hid (show f1 = o1 ∧ f2 = o2 from by
                  have q1 := HT2.out.t
                  have q2 := HT3.out.t
                  have q3 := HT.out.t1
                  have q4 := HT.out.t2
                  have hi := HE.out
                  rw [List.take_of_length_le (by rw [HX.out]; omega)] at q1 q3
                  rw [List.take_of_length_le (by rw [HY.out]; omega)] at q2 q4
                  exact ⟨(Tells.eq _ q1 q3).1, (Tells.eq _ q2 q4).1⟩)
                have HS2 := Lib.hid (And.intro HT3.out.many.fresh.size HT3.out.m1)
                go_loopw [20, 21] (fun s20 s21 wr2 => ApR4 w P wr.heap.size _ _ (max k2 k3) L3 M3 G f1 f2 (.slice A1 G.length C1) (.slice A2 f1.length C2) (.slice A3 f2.length C3) s20 s21 wr2) (fun _ s21 _ => max k2 k3 - (intOf s21).toNat)
                case atStart => exact ⟨0, [], none, 0, Nat.zero_le _, rfl, rfl, rfl, HT3.out.many, HT3.out.lg, HLF.out, HT3.out.ll, LL.nil _ _ _ _, Nat.le_refl _⟩
                case round =>
                  obtain ⟨k4, W, A4, C4, hk4, rfl, rfl, hW, T4⟩ := hrel
                  have HT4 := Lib.hid T4
                  have hwl : W.length ≤ 2097152 := by rw [hW]; have := turns_len f1 f2 k4; omega
                  have HW := Lib.hid hW
                  clear T4 hW
                  have HFL := Lib.hid (And.intro HF1.out HF2.out)
                  by_cases h1 : k4 < k2
                  · skip
                    have d1 : decide ((k4 : Int) < k2) = true := by simp; omega
                    have d1b : decide (k4 < k2) = true := by simp; omega
                    have hl1 : k4 < f1.length := by rw [HFL.out.1]; omega
                    obtain ⟨ye, hy⟩ : ∃ y, f1[k4]? = some y := ⟨f1[k4]'(by rw [HFL.out.1]; omega), List.getElem?_eq_getElem _⟩
                    obtain ⟨ge, ue, rfl, hge, hce, hr⟩ := HT4.out.lf.at hy
                    obtain ⟨BBe, CCe, rfl⟩ := own_slice hr.1
                    have HYe := Lib.hid (And.intro hy hr)
                    clear hy hr
                    obtain ⟨vse, hvs, happ⟩ := HT4.out.many.app HT4.out.ll HS2.out.1 HT4.out.m1 (n := W.length) rfl (.cells #[.slice BBe ye.length CCe] 39)
                    have HAPe := Lib.hid (And.intro hvs happ)
                    clear hvs happ
                    by_cases h2 : k4 < k3
                    · skip
                      have d2 : decide ((k4 : Int) < k3) = true := by simp; omega
                      have d2b : decide (k4 < k3) = true := by simp; omega
                      have hl2 : k4 < f2.length := by rw [HFL.out.2]; omega
                      go_wp2_with (first | (at_builtin; (refine wpl_app _ rfl _ _ 60 rfl 0 39 i0 (.slice none 0 0) 1 24 Try.underlying60 HIN.out.1 HIN.out.2.1 HIN.out.2.2.1 HIN.out.2.2.2 rfl (by decide) (.slice A4 W.length C4) W.length vse rfl HAPe.out.1 wr.heap.size 1 1 [.slice BBe ye.length CCe] 39 (0, 0) rfl (new_blk _) rfl (by simp [Value.oneCell']) (by unfold maxLen; omega) (by omega) (Nat.zero_le _) ?_); intro ANe CNe wi hown hgrow hat; have HWe := Lib.hid (HAPe.out.2 _ _ _ _ _ HYe.out.2 hown hgrow hat); clear hown hgrow hat; have HT5 := Lib.hid (show Ap4 w P _ _ _ L3 M3 G f1 f2 _ _ _ _ (.slice ANe (W.length + 1) CNe) wi from ⟨HWe.out.1, HWe.out.2.2.2 _ _ _ HT4.out.lg (fun g hg => Nat.lt_of_lt_of_le (HT3.out.lg.lt g hg) (Nat.le_refl _)), HWe.out.2.2.2 _ _ _ HT4.out.lf (fun g hg => HLF.out.lt g hg), HWe.out.2.2.2 _ _ _ HT4.out.ls (fun g hg => HT3.out.ll.lt g hg), HWe.out.2.1, Nat.le_trans HT4.out.m1 HWe.out.2.2.1⟩); obtain ⟨yf, hy⟩ : ∃ y, f2[k4]? = some y := ⟨f2[k4]'(by rw [HFL.out.2]; omega), List.getElem?_eq_getElem _⟩; obtain ⟨gf, uf, rfl, hgf, hcf, hr⟩ := HT5.out.ls.at hy; obtain ⟨BBf, CCf, rfl⟩ := own_slice hr.1; have HYf := Lib.hid (And.intro hy hr); clear hy hr; obtain ⟨vsf, hvs, happ⟩ := HT5.out.many.app HT5.out.ll HS2.out.1 HT5.out.m1 (n := (W.length + 1)) (len1 _ _).symm (.cells #[.slice BBf yf.length CCf] 39); have HAPf := Lib.hid (And.intro hvs happ); clear hvs happ) | (at_builtin; (refine wpl_app _ rfl _ _ 60 rfl 0 39 i0 (.slice none 0 0) 1 24 Try.underlying60 HIN.out.1 HIN.out.2.1 HIN.out.2.2.1 HIN.out.2.2.2 rfl (by decide) (.slice ANe (W.length + 1) CNe) (W.length + 1) vsf rfl HAPf.out.1 wi.heap.size 1 1 [.slice BBf yf.length CCf] 39 (0, 0) rfl (new_blk _) rfl (by simp [Value.oneCell']) (by unfold maxLen; omega) (by omega) (Nat.zero_le _) ?_); intro ANf CNf wj hown hgrow hat; have HWf := Lib.hid (HAPf.out.2 _ _ _ _ _ HYf.out.2 hown hgrow hat); clear hown hgrow hat))
                      go_roundw
                      case rel =>
                        have HF : Ap4 w P _ _ _ L3 M3 G f1 f2 _ _ _ _ (.slice ANf (W.length + 1 + 1) CNf) wj := ⟨HWf.out.1, HWf.out.2.2.2 _ _ _ HT5.out.lg (fun g hg => HT3.out.lg.lt g hg), HWf.out.2.2.2 _ _ _ HT5.out.lf (fun g hg => HLF.out.lt g hg), HWf.out.2.2.2 _ _ _ HT5.out.ls (fun g hg => HT3.out.ll.lt g hg), HWf.out.2.1, Nat.le_trans HT5.out.m1 HWf.out.2.2.1⟩
                        rw [← len2 W ye yf] at HF
                        refine ⟨k4 + 1, _, ANf, CNf, by omega, by rw [len2 W ye yf], by go_num, ?_, HF⟩
                        rw [HW.out, turns]
                        rw [HYe.out.1, HYf.out.1]
                        rfl
                      case measure => simp [intOf]; omega
                    · skip
                      have d2 : decide ((k4 : Int) < k3) = false := by simp; omega
                      have d2b : decide (k4 < k3) = false := by simp; omega
                      go_wp2_with (at_builtin; go_must (refine wpl_app _ rfl _ _ 60 rfl 0 39 i0 (.slice none 0 0) 1 24 Try.underlying60 HIN.out.1 HIN.out.2.1 HIN.out.2.2.1 HIN.out.2.2.2 rfl (by decide) (.slice A4 W.length C4) W.length vse rfl HAPe.out.1 wr.heap.size 1 1 [.slice BBe ye.length CCe] 39 (0, 0) rfl (new_blk _) rfl (by simp [Value.oneCell']) (by unfold maxLen; omega) (by omega) (Nat.zero_le _) ?_); intro ANe CNe wi hown hgrow hat; have HWe := Lib.hid (HAPe.out.2 _ _ _ _ _ HYe.out.2 hown hgrow hat); clear hown hgrow hat)
                      go_roundw
                      case rel =>
                        have HF : Ap4 w P _ _ _ L3 M3 G f1 f2 _ _ _ _ (.slice ANe (W.length + 1) CNe) wi := ⟨HWe.out.1, HWe.out.2.2.2 _ _ _ HT4.out.lg (fun g hg => HT3.out.lg.lt g hg), HWe.out.2.2.2 _ _ _ HT4.out.lf (fun g hg => HLF.out.lt g hg), HWe.out.2.2.2 _ _ _ HT4.out.ls (fun g hg => HT3.out.ll.lt g hg), HWe.out.2.1, Nat.le_trans HT4.out.m1 HWe.out.2.2.1⟩
                        rw [← len1 W ye] at HF
                        refine ⟨k4 + 1, _, ANe, CNe, by omega, by rw [len1 W ye], by go_num, ?_, HF⟩
                        rw [HW.out, turns]
                        rw [HYe.out.1, show f2[k4]? = none by rw [List.getElem?_eq_none_iff, HFL.out.2]; omega]
                        simp
                      case measure => simp [intOf]; omega
                  · skip
                    have d1 : decide ((k4 : Int) < k2) = false := by simp; omega
                    have d1b : decide (k4 < k2) = false := by simp; omega
                    by_cases h2 : k4 < k3
                    · skip
                      have d2 : decide ((k4 : Int) < k3) = true := by simp; omega
                      have d2b : decide (k4 < k3) = true := by simp; omega
                      have hl2 : k4 < f2.length := by rw [HFL.out.2]; omega
                      obtain ⟨yf, hy⟩ : ∃ y, f2[k4]? = some y := ⟨f2[k4]'(by rw [HFL.out.2]; omega), List.getElem?_eq_getElem _⟩
                      obtain ⟨gf, uf, rfl, hgf, hcf, hr⟩ := HT4.out.ls.at hy
                      obtain ⟨BBf, CCf, rfl⟩ := own_slice hr.1
                      have HYf := Lib.hid (And.intro hy hr)
                      clear hy hr
                      obtain ⟨vsf, hvs, happ⟩ := HT4.out.many.app HT4.out.ll HS2.out.1 HT4.out.m1 (n := W.length) rfl (.cells #[.slice BBf yf.length CCf] 39)
                      have HAPf := Lib.hid (And.intro hvs happ)
                      clear hvs happ
                      go_wp2_with (at_builtin; go_must (refine wpl_app _ rfl _ _ 60 rfl 0 39 i0 (.slice none 0 0) 1 24 Try.underlying60 HIN.out.1 HIN.out.2.1 HIN.out.2.2.1 HIN.out.2.2.2 rfl (by decide) (.slice A4 W.length C4) W.length vsf rfl HAPf.out.1 wr.heap.size 1 1 [.slice BBf yf.length CCf] 39 (0, 0) rfl (new_blk _) rfl (by simp [Value.oneCell']) (by unfold maxLen; omega) (by omega) (Nat.zero_le _) ?_); intro ANf CNf wj hown hgrow hat; have HWf := Lib.hid (HAPf.out.2 _ _ _ _ _ HYf.out.2 hown hgrow hat); clear hown hgrow hat)
                      go_roundw
                      case rel =>
                        have HF : Ap4 w P _ _ _ L3 M3 G f1 f2 _ _ _ _ (.slice ANf (W.length + 1) CNf) wj := ⟨HWf.out.1, HWf.out.2.2.2 _ _ _ HT4.out.lg (fun g hg => HT3.out.lg.lt g hg), HWf.out.2.2.2 _ _ _ HT4.out.lf (fun g hg => HLF.out.lt g hg), HWf.out.2.2.2 _ _ _ HT4.out.ls (fun g hg => HT3.out.ll.lt g hg), HWf.out.2.1, Nat.le_trans HT4.out.m1 HWf.out.2.2.1⟩
                        rw [← len1 W yf] at HF
                        refine ⟨k4 + 1, _, ANf, CNf, by omega, by rw [len1 W yf], by go_num, ?_, HF⟩
                        rw [HW.out, turns]
                        rw [HYf.out.1, show f1[k4]? = none by rw [List.getElem?_eq_none_iff, HFL.out.1]; omega]
                        simp
                      case measure => simp [intOf]; omega
                    · skip
                      have d2 : decide ((k4 : Int) < k3) = false := by simp; omega
                      have d2b : decide (k4 < k3) = false := by simp; omega
                      go_wp2_with fail
                      have HWG := Lib.hid (show W.length = G.length from by rw [HW.out, HT.out.g, HFO.out.1, HFO.out.2, show k4 = i by (have := HE.out; omega)])
                      have HG := Lib.hid (show W = G by
                        rw [HW.out, HT.out.g, HFO.out.1, HFO.out.2]
                        congr 1
                        have := HE.out
                        omega)
                      have HCQ := Lib.hid (show Calls Try.prog 29 #[.slice A1 G.length C1, .slice A4 W.length C4] wr (fun e w' => e = .returned (.bool true) ∧ Fresh wr w') from by rw [HWG.out]; exact eqLists_same wr A1 A4 G.length C1 C4 G HT4.out.lg.all.2 (by have h := HT4.out.ll.all.2; rw [HG.out] at h; exact h) (by omega))
                      refine HCQ.out.mono ?_
                      rintro e wz ⟨rfl, FZ⟩
                      have HFZ := Lib.hid FZ
                      clear FZ
                      go_wp2_with fail
                      go_ret
                      exact ⟨rfl, HT4.out.many.fresh.trans' HFZ.out⟩
end Go.Proofs.Ytabfmoedbnpihaa
