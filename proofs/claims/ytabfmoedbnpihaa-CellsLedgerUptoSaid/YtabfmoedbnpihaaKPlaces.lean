/- A step towards the laws on the cells of a run: the walk of CellsPlaces. No conditions of its own beyond those that its theorems name. -/
import Derived.Test.YtabfmoedbnpihaaKOne2
namespace Go.Proofs.Ytabfmoedbnpihaa
open Go.RowKit Go.MapKept

theorem Fresh.cel {w w1 : World} (h : Fresh w w1) {p : Addr} (hp : p.block < w.heap.size) : w1.cell? p = w.cell? p := Only.cell h hp (fun q => q)
/-- a call that came in: with the list that goes with it as it lies -/
structure InOp where
  o : POp
  B : Option Addr
  ln : Nat
  cp : Nat

/-- a slice of calls that came in -/
def Ops (w : World) (A : Option Addr) (n : Nat) (xs : List InOp) : Prop :=
  xs.length = n ∧ ∀ (i : Nat) (x : InOp), xs[i]? = some x → ∃ b o, A = some ⟨b, o, none⟩ ∧ b < w.heap.size ∧
    w.cell? ⟨b, o + i * 9, none⟩ = some (.int .i64 x.o.kind) ∧ w.cell? ⟨b, o + i * 9 + 1, none⟩ = some (.int .i64 x.o.on) ∧ w.cell? ⟨b, o + i * 9 + 2, none⟩ = some (.int .i64 x.o.n) ∧
    w.cell? ⟨b, o + i * 9 + 3, none⟩ = some (.bool x.o.heap) ∧ w.cell? ⟨b, o + i * 9 + 4, none⟩ = some (.int .i64 x.o.v.1) ∧ w.cell? ⟨b, o + i * 9 + 5, none⟩ = some (.int .i64 x.o.v.2) ∧
    w.cell? ⟨b, o + i * 9 + 6, none⟩ = some (.int .i64 x.o.w.1) ∧ w.cell? ⟨b, o + i * 9 + 7, none⟩ = some (.int .i64 x.o.w.2) ∧ w.cell? ⟨b, o + i * 9 + 8, none⟩ = some (.slice x.B x.ln x.cp) ∧
    Ints w x.B x.ln x.o.cells ∧ x.ln ≤ 9223372036854775807

/-- two memories, apart -/
structure Two (w w1 : World) (p q : Nat) (la lb : Lab) (a b : PM) : Prop where
  one : Own w w1 p la a
  two : Own w w1 q lb b
  apart : ∀ c, la c ≠ none → lb c = none
section
variable {w w1 w2 : World} {p q : Nat} {la lb la2 lb2 : Lab} {a b a2 b2 : PM}
theorem Two.apart' (h : Two w w1 p q la lb a b) : ∀ c, lb c ≠ none → la c = none := fun c hc => Decidable.byContradiction fun q => hc (h.apart c q)
theorem Two.swap (h : Two w w1 p q la lb a b) : Two w w1 q p lb la b a := ⟨h.two, h.one, h.apart'⟩
theorem Two.left (h : Two w w1 p q la lb a b) (ho : Own w w2 p la2 a2) (hx : Ext w1 w2 la la2) : Two w w2 p q la2 lb a2 b := by
  refine ⟨ho, ⟨h.two.mem.only hx.only (fun c hc e => e (h.apart' c hc)), h.two.new, ho.fresh⟩, fun c hc => ?_⟩
  rcases hx.new c hc with g | g
  · exact h.apart c g
  · exact Decidable.byContradiction fun k => absurd (h.two.old c k) (by omega)
theorem Two.right (h : Two w w1 p q la lb a b) (ho : Own w w2 q lb2 b2) (hx : Ext w1 w2 lb lb2) : Two w w2 p q la lb2 a b2 := (h.swap.left ho hx).swap
theorem Two.keep (h : Two w w1 p q la lb a b) (f : Fresh w1 w2) : Two w w2 p q la lb a b := ⟨h.one.keep f, h.two.keep f, h.apart⟩
theorem Two.set (h : Two w w1 p q la lb a b) {r : Nat} (hp : Out w1 la r) (hq : Out w1 lb r) (hn : w.heap.size ≤ r) (i : Nat) (u : Value) : Two w (w1.setCell ⟨r, i, none⟩ u) p q la lb a b :=
  ⟨h.one.set hp hn i u, h.two.set hq hn i u, h.apart⟩
theorem Out.other {w0 : World} {r : Nat} (h : Out w1 la r) (ho : ∀ c, lb c ≠ none → c < w0.heap.size) (hr : w0.heap.size ≤ r) : Out w1 lb r := ⟨Decidable.byContradiction fun k => by have := ho r k; omega, h.2⟩
theorem setCell_size (w : World) (a : Addr) (u : Value) : (w.setCell a u).heap.size = w.heap.size := by simp [World.setCell]
theorem Own.two (h : Own w w1 p la a) (h2 : Own w w2 q lb b) (f : Fresh w1 w2) (hn : NewLab w1 lb) : Two w w2 p q la lb a b :=
  ⟨h.keep f, h2, fun c hc => Decidable.byContradiction fun k => by have := h.old c hc; have := hn c k; omega⟩
end

theorem Small.lim {i : Nat} {M : PM} (h : Small i M) (hi : i ≤ 1048576) : M.frames.length < Lim ∧ M.made < Lim ∧ ∀ l ∈ M.frames, l.length < Lim := by
  have h1 := h.made
  have h2 := h.frames
  refine ⟨by unfold Lim; omega, by unfold Lim; omega, fun l hl => ?_⟩
  have := h.each l hl
  unfold Lim
  omega

def pl0 : PM := PM.new 2
def pl1 : PM := pl0.push
theorem pl1_sim : Sim pl1 pl1 := ⟨rfl, rfl, rfl, fun _ _ h => h, fun l hl => by simpa [pl1, pl0, PM.push, PM.new] using hl, fun k h1 h2 => by simp [pl1, pl0, PM.push, PM.new] at h2; omega⟩
theorem pl1_small : Small 0 pl1 := ⟨Nat.le_refl _, Nat.le_refl _, fun l hl => by simp [pl1, pl0, PM.push, PM.new] at hl; subst hl; exact Nat.le_refl _⟩

set_option maxRecDepth 200000 in
set_option maxHeartbeats 1000000 in
theorem places_walk (w : World) (A : Option Addr) (n C : Nat) (xs : List InOp) (hv : Ops w A n xs) (hn : n ≤ 1048576) :
    Calls Try.prog 8 #[.slice A n C] w fun e w' => e = .returned (.bool true) ∧ Fresh w w' := by
  have HV := Lib.hid hv
  clear hv
  go_enter Try.func8, Try.ntmps8
  go_wp2_with fail
  refine (fixed_any w).mono ?_
  rintro e w0 ⟨rfl, F0⟩
  have HF0 := Lib.hid F0
  clear F0
  go_wp2_with fail
  refine (own_new w w0 HF0.out 2).mono ?_
  rintro e w1 ⟨p, la, rfl, Oa, _, _⟩
  have HA := Lib.hid Oa
  clear Oa
  go_wp2_with fail
  refine (own_new w1 w1 (Only.refl _ _) 2).mono ?_
  rintro e w2 ⟨q, lb, rfl, Ob, Fb, Nb⟩
  have HT := Lib.hid (HA.out.two (w2 := w2) ⟨Ob.mem, fun c hc => Nat.le_trans HA.out.size (Nb c hc), HA.out.fresh.trans' Fb⟩ Fb Nb)
  clear Ob Fb Nb HA
  go_wp2_with fail
  refine (Own.push (M := pl0) HT.out.one (by decide)).mono ?_
  rintro e w3 ⟨rfl, l3, O3, X3⟩
  have HT3 := Lib.hid (HT.out.left O3 X3)
  clear O3 X3 HT
  go_wp2_with fail
  refine (Own.push (M := pl0) HT3.out.two (by decide)).mono ?_
  rintro e w4 ⟨rfl, l4, O4, X4⟩
  have HT4 := Lib.hid (HT3.out.right O4 X4)
  clear O4 X4 HT3
  go_wp2_with fail
  go_loopw [3, 6] (fun s3 s6 wr => ∃ (i : Nat) (a b : PM) (la lb : Lab), i ≤ n ∧ s3 = .bool true ∧ s6 = .int .i64 i ∧ Two w wr p q la lb a b ∧ Sim a b ∧ Small i a ∧ Small i b) (fun _ s6 _ => n - (intOf s6).toNat)
  case atStart => exact ⟨0, pl1, pl1, l3, l4, Nat.zero_le _, rfl, rfl, HT4.out, pl1_sim, pl1_small, pl1_small⟩
  case round =>
    clear HT4
    obtain ⟨i, a, b, la, lb, hi, rfl, rfl, T, S, za, zb⟩ := hrel
    have HT := Lib.hid T
    have HS := Lib.hid S
    have HZA := Lib.hid za
    have HZB := Lib.hid zb
    clear T S za zb
    by_cases hlt : i < n
    · obtain ⟨x, hx⟩ : ∃ x, xs[i]? = some x := ⟨xs[i]'(by have := HV.out.1; omega), List.getElem?_eq_getElem _⟩
      obtain ⟨bb, oo, rfl, hb, e0, e1, e2, e3, e4, e5, e6, e7, e8, _, _⟩ := HV.out.2 i x hx
      have F := HT.out.one.fresh
      rw [← Fresh.cel F (p := ⟨bb, _, none⟩) hb] at e0 e1 e2 e3 e4 e5 e6 e7 e8
      clear F hx
      have d1 : decide ((i : Int) < n) = true := by simp; omega
      obtain ⟨⟨k, on, m, heap, ⟨v0, v1⟩, ⟨y0, y1⟩, cs⟩, B, ln, cp⟩ := x
      dsimp only at e0 e1 e2 e3 e4 e5 e6 e7 e8
      by_cases h9 : k = 9
      · subst h9
        go_wp2_with fail
        go_roundw
        case rel => exact ⟨i + 1, a, b, la, lb, by omega, rfl, by go_num, HT.out.keep (alloc_fresh _ _), HS.out, HZA.out.mono (by omega), HZB.out.mono (by omega)⟩
        case measure => simp [intOf]; omega
      by_cases h10 : k = 10
      · subst h10
        go_wp2_with fail
        go_roundw
        case rel => exact ⟨i + 1, a, b, la, lb, by omega, rfl, by go_num, HT.out.keep (alloc_fresh _ _), HS.out, HZA.out.mono (by omega), HZB.out.mono (by omega)⟩
        case measure => simp [intOf]; omega
      have k9 : (k == 9) = false := by simp [h9]
      have k10 : (k == 10) = false := by simp [h10]
      have HK := Lib.hid (And.intro h9 h10)
      clear h9 h10
      obtain ⟨o, ho⟩ : ∃ o : POp, o = ⟨k, on, m, heap, (v0, v1), (y0, y1), cs⟩ := ⟨_, rfl⟩
      have HLA := Lib.hid (HZA.out.lim (by omega))
      have HLB := Lib.hid (HZB.out.lim (by omega))
      have HSO := Lib.hid (HS.out.one o (by rw [ho]; exact HK.out.1) (by rw [ho]; exact HK.out.2))
      have HC1 := Lib.hid (fun W (hW : Own w W p la a) => one_any hW o B ln cp HLA.out.1 HLA.out.2.1 HLA.out.2.2 (by rw [ho]; exact HK.out.1) (by rw [ho]; exact HK.out.2))
      have HC2 := Lib.hid (fun W (hW : Own w W q lb b) => one_any hW o.onHeap B ln cp HLB.out.1 HLB.out.2.1 HLB.out.2.2 (by rw [ho]; exact HK.out.1) (by rw [ho]; exact HK.out.2))
      have HO := Lib.hid ho
      have HZ1 := Lib.hid (HZA.out.one o)
      have HZ2 := Lib.hid (HZB.out.one o.onHeap)
      generalize a.oneM o = a2 at *
      generalize b.oneM o.onHeap = b2 at *
      generalize a.oneN o = na at *
      generalize b.oneN o.onHeap = nb at *
      generalize a.oneE o = ea at *
      generalize b.oneE o.onHeap = eb at *
      generalize a.oneV o = va at *
      generalize b.oneV o.onHeap = vb at *
      clear ho
      go_wp2_with fail
      have hc := HC1.out _ (HT.out.keep (alloc_fresh wr (.cells #[.int .i64 k, .int .i64 on, .int .i64 m, .bool heap, .int .i64 v0, .int .i64 v1, .int .i64 y0, .int .i64 y1, .slice B ln cp] 56))).one
      rw [HO.out] at hc
      refine hc.mono ?_
      clear hc
      rintro e w5 ⟨rfl, l5, O5, X5⟩
      have HU5 := Lib.hid (X5.out (HT.out.one.out_new _))
      have hb5 := X5.blk (HT.out.one.out_new _) (new_blk _)
      have HT5 := Lib.hid ((HT.out.keep (alloc_fresh wr _)).left O5 X5)
      have HB5 := Lib.hid hb5
      clear O5 X5 e0 e1 e2 e3 e4 e5 e6 e7 e8
      have c0 : w5.cell? ⟨wr.heap.size, 0, none⟩ = some (.int .i64 k) := blk_cell hb5 rfl
      have c1 : w5.cell? ⟨wr.heap.size, 1, none⟩ = some (.int .i64 on) := blk_cell hb5 rfl
      have c2 : w5.cell? ⟨wr.heap.size, 2, none⟩ = some (.int .i64 m) := blk_cell hb5 rfl
      have c3 : w5.cell? ⟨wr.heap.size, 3, none⟩ = some (.bool heap) := blk_cell hb5 rfl
      have c4 : w5.cell? ⟨wr.heap.size, 4, none⟩ = some (.int .i64 v0) := blk_cell hb5 rfl
      have c5 : w5.cell? ⟨wr.heap.size, 5, none⟩ = some (.int .i64 v1) := blk_cell hb5 rfl
      have c6 : w5.cell? ⟨wr.heap.size, 6, none⟩ = some (.int .i64 y0) := blk_cell hb5 rfl
      have c7 : w5.cell? ⟨wr.heap.size, 7, none⟩ = some (.int .i64 y1) := blk_cell hb5 rfl
      have c8 : w5.cell? ⟨wr.heap.size, 8, none⟩ = some (.slice B ln cp) := blk_cell hb5 rfl
      have c9 := blk_frozen hb5 3
      have c10 := blk_lt hb5
      clear hb5
      obtain ⟨va0, va1⟩ := va
      obtain ⟨vb0, vb1⟩ := vb
      go_wp2_with fail
      have HUB := Lib.hid (HU5.out.other HT.out.two.old (Nat.le_refl _))
      have HT6 := Lib.hid ((HT5.out.set HU5.out HUB.out HT.out.one.size 3 (.bool true)).keep (alloc_fresh _ (.cells #[.int .i64 va0, .int .i64 va1] 32)))
      have hc := HC2.out _ HT6.out.two
      rw [HO.out] at hc
      refine hc.mono ?_
      clear hc
      rintro e w7 ⟨rfl, l7, O7, X7⟩
      have HT7 := Lib.hid (HT6.out.right O7 X7)
      have hq := X7.blk ((HT5.out.set HU5.out HUB.out HT.out.one.size 3 (.bool true)).two.out_new (.cells #[.int .i64 va0, .int .i64 va1] 32)) (new_blk _)
      rw [setCell_size] at hq
      have q0 : w7.cell? ⟨w5.heap.size, 0, none⟩ = some (.int .i64 va0) := blk_cell hq rfl
      have q1 : w7.cell? ⟨w5.heap.size, 1, none⟩ = some (.int .i64 va1) := blk_cell hq rfl
      have q2 := blk_lt hq
      clear O7 X7 hq c0 c1 c2 c3 c4 c5 c6 c7 c8 c9 c10
      have hb32 : (eb == 32) = false := by simp [HSO.out.1]
      by_cases he : ea = 32
      · subst he
        go_wp2_with fail
        go_ret
        exact ⟨rfl, (HT7.out.one.alloc _).fresh⟩
      · have ha32 : (ea == 32) = false := by simp [he]
        obtain ⟨g1, g2, g3, g4⟩ := HSO.out.2.resolve_left he
        have HSS := Lib.hid g4
        injection g2 with g2 g5
        subst g1
        subst g3
        subst g2
        subst g5
        have t0 : (na == na) = true := by simp
        have t1 : (ea == ea) = true := by simp
        clear he g4 hb32
        go_wp2_with fail
        go_roundw
        case rel => exact ⟨i + 1, a2, b2, l5, l7, by omega, rfl, by go_num, HT7.out.keep (alloc_fresh _ _), HSS.out, HZ1.out, HZ2.out⟩
        case measure => simp [intOf]; omega
    · have d1 : decide ((i : Int) < n) = false := by simp; omega
      go_wp2_with fail
      go_ret
      exact ⟨rfl, HT.out.one.fresh⟩
end Go.Proofs.Ytabfmoedbnpihaa
