/- A step towards the laws on the cells of a run: one call of one memory (one): Live and Drop, and all kinds together. No conditions of its own beyond those that its theorems name. -/
import Derived.Test.YtabfmoedbnpihaaKPlaces
import Derived.Test.YtabfmoedbnpihaaKLive
namespace Go.Proofs.Ytabfmoedbnpihaa
open Go.RowKit Go.MapKept

/-- a list of numbers of one's own, outside the memory -/
def Lst (w wr : World) (lab : Lab) (v : Value) (l : List Int) : Prop :=
  wr.ownsRow 0 3 1 v l.length (l.map (Value.int .i64)) ∧ ∀ g, v.ownBlock = some g → lab g = none ∧ w.heap.size ≤ g
theorem Lst.fresh {w wr w1 : World} {lab : Lab} {v : Value} {l : List Int} (h : Lst w wr lab v l) (f : Fresh wr w1) : Lst w w1 lab v l := ⟨f.row h.1 fun _ _ q => q, h.2⟩
theorem Lst.ext {w wr w1 : World} {lab lab1 : Lab} {v : Value} {l : List Int} (h : Lst w wr lab v l) (x : Ext wr w1 lab lab1) : Lst w w1 lab1 v l := by
  refine ⟨x.only.row h.1 fun g hg q => q (h.2 g hg).1, fun g hg => ⟨?_, (h.2 g hg).2⟩⟩
  exact (x.out (b := g) ⟨(h.2 g hg).1, own_lt h.1 hg⟩).1
theorem Lst.set {w wr : World} {lab : Lab} {v : Value} {l : List Int} (h : Lst w wr lab v l) {b : Nat} (hb : ∀ g, v.ownBlock = some g → g ≠ b) (i : Nat) (u : Value) : Lst w (wr.setCell ⟨b, i, none⟩ u) lab v l :=
  ⟨own_far h.1 (fun e => hb b e rfl) u, h.2⟩
theorem Lst.base {w w0 wr : World} {lab : Lab} {v : Value} {l : List Int} (h : Lst w wr lab v l) (hs : w0.heap.size ≤ w.heap.size) : Lst w0 wr lab v l := ⟨h.1, fun g hg => ⟨(h.2 g hg).1, Nat.le_trans hs (h.2 g hg).2⟩⟩
theorem Lst.nil (w wr : World) (lab : Lab) : Lst w wr lab (.slice none 0 0) [] := ⟨World.ownsRow_nil _ _ _ _, fun g hg => by simp [Value.ownBlock] at hg⟩
theorem Lst.ints {w wr : World} {lab : Lab} {A : Option Addr} {n C : Nat} {l : List Int} (h : Lst w wr lab (.slice A n C) l) : n = l.length ∧ Ints wr A l.length l := by
  have h1 := h.1
  have hn : n = l.length := by
    rcases h1.2 with ⟨q, r⟩ | ⟨g, cap, cur, q, _⟩
    · injection q with _ q _
      simp at r
      subst r
      exact q
    · injection q with _ q _
  subst hn
  refine ⟨rfl, rfl, fun i x hx => ?_⟩
  have hm : (l.map (Value.int .i64))[i]? = some (.int .i64 x) := by rw [List.getElem?_map, hx]; rfl
  obtain ⟨g, c, e, hc, _, _⟩ := own_cell h1 hm
  injection e with e _ _
  subst e
  exact ⟨g, 0, rfl, World.block_lt_of_cell? _ _ hc, by rw [Nat.zero_add]; exact hc⟩
theorem LiveIs.eq {M : PM} {a b : List Int} (h : LiveIs M a) (k : LiveIs M b) : a = b := by
  have hp : a.Perm b := (List.perm_ext_iff_of_nodup (h.rising.imp fun q => Int.ne_of_lt q) (k.rising.imp fun q => Int.ne_of_lt q)).2 fun x => (h.mem x).trans (k.mem x).symm
  exact List.Perm.eq_of_pairwise (le := (· < ·)) (fun x y _ _ h1 h2 => by omega) h.rising k.rising hp

section
variable {w w1 : World} {p : Nat} {lab : Lab} {M : PM}
theorem Own.live (h : Own w w1 p lab M) (hd : M.Dom) (hmd : M.made < Lim) :
    Calls Try.prog 20 #[.pointer (some ⟨p, 0, none⟩)] w1 fun e w2 => ∃ (A : Option Addr) (C : Nat) (ss : List Int), e = .returned (.slice A ss.length C) ∧ LiveIs M ss ∧ Lst w1 w2 lab (.slice A ss.length C) ss ∧ Own w w2 p lab M ∧ Fresh w1 w2 := by
  refine (live_any h.mem hd hmd).mono ?_
  rintro e w2 ⟨v, ss, rfl, hs, hrow, hf⟩
  obtain ⟨A, C, rfl⟩ := own_slice hrow
  refine ⟨A, C, ss, rfl, hs, ⟨⟨hrow.1, ?_⟩, fun g hg => ?_⟩, h.keep hf, hf⟩
  · rcases hrow.2 with q | ⟨g, cap, cur, e1, e2, e3⟩
    · exact .inl q
    · exact .inr ⟨g, cap, cur, e1, Nat.zero_le _, e3⟩
  · have := (hrow.lt g hg).1
    exact ⟨Decidable.byContradiction fun k => by have := h.old g k; omega, this⟩
theorem Own.drop (h : Own w w1 p lab M) (A : Option Addr) (n C : Nat) (l : List Int) (hl : Ints w1 A n l) (hn : n ≤ 9223372036854775807) (hmd : M.made < Lim) :
    Calls Try.prog 38 #[.pointer (some ⟨p, 0, none⟩), .slice A n C] w1 fun e w2 => e = .returned (.int .i64 (M.dropErr l)) ∧ ∃ lab2, Own w w2 p lab2 (M.drop l) ∧ Ext w1 w2 lab lab2 := by
  refine (drop_any h.mem A n C l hl hn hmd).mono ?_
  rintro e w2 ⟨rfl, hm2, ho⟩
  exact ⟨rfl, lab, h.step hm2 (Ext.same ho), Ext.same ho⟩
theorem Ints.alloc {A : Option Addr} {n : Nat} {l : List Int} (h : Ints w1 A n l) {w2 : World} (f : Fresh w1 w2) : Ints w2 A n l := ⟨h.1, fun i x hx => by
  obtain ⟨b, o, e, hb, hc⟩ := h.2 i x hx
  exact ⟨b, o, e, Nat.lt_of_lt_of_le hb f.size, (Fresh.cel f (p := ⟨b, _, none⟩) hb).trans hc⟩⟩

set_option maxRecDepth 100000 in
set_option maxHeartbeats 1000000 in
theorem one_drop (h : Own w w1 p lab M) (on n : Int) (heap : Bool) (v y : Int × Int) (A : Option Addr) (ln cp : Nat) (l : List Int) (hl : Ints w1 A ln l) (hn : ln ≤ 9223372036854775807) (hmd : M.made < Lim) :
    Calls Try.prog 26 #[.pointer (some ⟨p, 0, none⟩), .agg #[.int .i64 10, .int .i64 on, .int .i64 n, .bool heap, .int .i64 v.1, .int .i64 v.2, .int .i64 y.1, .int .i64 y.2, .slice A ln cp]] w1
      fun e w2 => e = .returned (.tuple #[.int .i64 0, vv (0, 0), .slice none 0 0, .int .i64 (M.dropErr l)]) ∧ ∃ lab2, Own w w2 p lab2 (M.drop l) ∧ Ext w1 w2 lab lab2 := by
  have H := Lib.hid h
  have hc := fun o o' => Own.drop (h.keep (alloc_fresh2 w1 o o')) A ln cp l (hl.alloc (alloc_fresh2 w1 o o')) hn hmd
  generalize hM : M.drop l = M2 at *
  generalize M.dropErr l = r at *
  have HC := Lib.hid hc
  clear h hc hM hl
  go_enter Try.func26, Try.ntmps26
  go_wp2_with fail
  refine (HC.out _ _).mono ?_
  rintro e w2 ⟨rfl, l2, O2, X2⟩
  have HO := Lib.hid O2
  have HX := Lib.hid X2
  have hb := (two_new H.out X2).1
  have c0 : w2.cell? ⟨w1.heap.size + 1, 0, none⟩ = some (.int .i64 0) := blk_cell hb rfl
  have c1 : w2.cell? ⟨w1.heap.size + 1, 1, none⟩ = some (.int .i64 0) := blk_cell hb rfl
  have c2 := blk_frozen hb 0
  have c3 := blk_frozen hb 1
  have c4 := blk_lt hb
  have HB := Lib.hid hb
  clear O2 X2 hb
  go_wp2_with fail
  obtain ⟨_, s1, s2⟩ := set_read HB.out (.int .i64 0) (.int .i64 0)
  refine bodyPost_ret (v := .tuple #[.int .i64 0, vv (0, 0), .slice none 0 0, .int .i64 r]) ?_ rfl ⟨rfl, l2, ?_⟩
  · simp [results, Try.results26, go_sem, s1, s2]
  · exact two_fin H.out HO.out HX.out _ _

set_option maxRecDepth 100000 in
set_option maxHeartbeats 1000000 in
theorem one_live (h : Own w w1 p lab M) (on n : Int) (heap : Bool) (v y : Int × Int) (A : Option Addr) (ln cp : Nat) (hd : M.Dom) (hmd : M.made < Lim) :
    Calls Try.prog 26 #[.pointer (some ⟨p, 0, none⟩), .agg #[.int .i64 9, .int .i64 on, .int .i64 n, .bool heap, .int .i64 v.1, .int .i64 v.2, .int .i64 y.1, .int .i64 y.2, .slice A ln cp]] w1
      fun e w2 => ∃ (A : Option Addr) (C : Nat) (ss : List Int) (lab2 : Lab), e = .returned (.tuple #[.int .i64 0, vv (0, 0), .slice A ss.length C, .int .i64 0]) ∧ LiveIs M ss ∧ Lst w1 w2 lab2 (.slice A ss.length C) ss ∧ Own w w2 p lab2 M ∧ Ext w1 w2 lab lab2 := by
  have H := Lib.hid h
  have hc := fun o o' => Own.live (h.keep (alloc_fresh2 w1 o o')) hd hmd
  have HC := Lib.hid hc
  clear h hc hd
  go_enter Try.func26, Try.ntmps26
  go_wp2_with fail
  refine (HC.out _ _).mono ?_
  rintro e w2 ⟨A2, C2, ss, rfl, hs, hl, O2, F2⟩
  have HO := Lib.hid O2
  have HF := Lib.hid F2
  have HL := Lib.hid (And.intro hs hl)
  have hb := F2.cell (two_blk w1 _ _)
  have c0 : w2.cell? ⟨w1.heap.size + 1, 0, none⟩ = some (.int .i64 0) := blk_cell hb rfl
  have c1 : w2.cell? ⟨w1.heap.size + 1, 1, none⟩ = some (.int .i64 0) := blk_cell hb rfl
  have c2 := blk_frozen hb 0
  have c3 := blk_frozen hb 1
  have c4 := blk_lt hb
  have HB := Lib.hid hb
  clear O2 F2 hb hs hl
  go_wp2_with fail
  obtain ⟨_, s1, s2⟩ := set_read HB.out (.int .i64 0) (.int .i64 0)
  refine bodyPost_ret (v := .tuple #[.int .i64 0, vv (0, 0), .slice A2 ss.length C2, .int .i64 0]) ?_ rfl ⟨A2, C2, ss, lab, rfl, HL.out.1, ?_, ?_⟩
  · simp [results, Try.results26, go_sem, s1, s2]
  · have hsz : ∀ g, (Value.slice A2 ss.length C2).ownBlock = some g → g ≠ w1.heap.size + 1 := fun g hg e => by
      have h1 := (HL.out.2.2 g hg).2
      simp at h1
      omega
    exact ((HL.out.2.set hsz _ _).set hsz _ _).base (by simp; omega)
  · exact two_fin H.out HO.out (Ext.same (HF.out.mono fun _ _ q => q.elim)) _ _

/-- one call, of whatever kind -/
theorem one_all (h : Own w w1 p lab M) (o : POp) (A : Option Addr) (ln cp : Nat) (hl : Ints w1 A ln o.cells) (hn : ln ≤ 9223372036854775807) (hd : M.Dom) (hf : M.frames.length < Lim) (hmd : M.made < Lim) (hfl : ∀ l ∈ M.frames, l.length < Lim) :
    Calls Try.prog 26 #[.pointer (some ⟨p, 0, none⟩), o.val A ln cp] w1
      fun e w2 => ∃ (A : Option Addr) (C : Nat) (ss : List Int) (lab2 : Lab), e = .returned (.tuple #[.int .i64 (M.oneN o), vv (M.oneV o), .slice A ss.length C, .int .i64 (M.oneE o)]) ∧ (o.kind = 9 → LiveIs M ss) ∧ (o.kind ≠ 9 → ss = []) ∧
        Lst w1 w2 lab2 (.slice A ss.length C) ss ∧ Own w w2 p lab2 (M.oneM o) ∧ Ext w1 w2 lab lab2 := by
  by_cases h9 : o.kind = 9
  · obtain ⟨k, on, n, heap, v, y, cs⟩ := o
    dsimp only at h9 hl
    subst h9
    refine (one_live h on n heap v y A ln cp hd hmd).mono ?_
    rintro e w2 ⟨A2, C2, ss, l2, rfl, a, b, c, d⟩
    exact ⟨A2, C2, ss, l2, rfl, fun _ => a, fun q => absurd rfl q, b, c, d⟩
  · by_cases h10 : o.kind = 10
    · obtain ⟨k, on, n, heap, v, y, cs⟩ := o
      dsimp only at h10 hl
      subst h10
      refine (one_drop h on n heap v y A ln cp cs hl hn hmd).mono ?_
      rintro e w2 ⟨rfl, l2, c, d⟩
      exact ⟨none, 0, [], l2, rfl, fun q => absurd q (by simp), fun _ => rfl, Lst.nil _ _ _, c, d⟩
    · refine (one_any h o A ln cp hf hmd hfl h9 h10).mono ?_
      rintro e w2 ⟨rfl, l2, c, d⟩
      exact ⟨none, 0, [], l2, rfl, fun q => absurd q h9, fun _ => rfl, Lst.nil _ _ _, c, d⟩
end

/-- what is refused changes nothing and tells nothing -/
theorem refused (M : PM) (o : POp) (h : M.oneE o ≠ 0) : M.oneM o = M ∧ M.oneN o = 0 ∧ M.oneV o = (0, 0) ∧ o.kind ≠ 9 := by
  obtain ⟨k, on, n, heap, v, y, cs⟩ := o
  by_cases h3 : k = 3
  · subst h3
    have he : M.popErr ≠ 0 := h
    refine ⟨?_, rfl, rfl, by simp⟩
    have hfr : M.frames = [] := by
      unfold PM.popErr at he
      split at he
      · rename_i q; exact List.length_eq_zero_iff.1 q
      · exact absurd rfl he
    show M.pop = M
    unfold PM.pop
    rw [hfr]
    obtain ⟨a, b, c, d⟩ := M
    simp at hfr
    simp [hfr]
  by_cases h4 : k = 4
  · subst h4
    have he : M.mkErr n ≠ 0 := h
    exact ⟨by show M.make n heap = M; unfold PM.make; rw [if_neg he], by show M.mkN n = 0; unfold PM.mkN; rw [if_neg he], rfl, by simp⟩
  by_cases h5 : k = 5
  · subst h5
    have he : M.err v n ≠ 0 := h
    exact ⟨rfl, rfl, by show M.load v n = (0, 0); unfold PM.load; rw [if_neg he], by simp⟩
  by_cases h6 : k = 6
  · subst h6
    have he : M.storeErr v n y ≠ 0 := h
    exact ⟨by show M.store v n y = M; unfold PM.store; rw [if_neg he], rfl, rfl, by simp⟩
  by_cases h7 : k = 7
  · subst h7
    have he : M.gerr n ≠ 0 := h
    refine ⟨rfl, rfl, ?_, by simp⟩
    show M.global n = (0, 0)
    unfold PM.gerr at he
    split at he
    · rename_i q
      unfold PM.global
      split
      · rfl
      · rw [List.getD_eq_getElem?_getD, List.getElem?_eq_none (by omega)]
        rfl
    · exact absurd rfl he
  by_cases h8 : k = 8
  · subst h8
    have he : M.setGlobalErr n v ≠ 0 := h
    exact ⟨by show M.setGlobal n v = M; unfold PM.setGlobal; rw [if_neg he], rfl, rfl, by simp⟩
  by_cases h10 : k = 10
  · subst h10
    have he : M.dropErr cs ≠ 0 := h
    exact ⟨by show M.drop cs = M; unfold PM.drop; rw [if_neg he], rfl, rfl, by simp⟩
  · exact absurd (by simp [PM.oneE, h3, h4, h5, h6, h7, h8, h10]) h

theorem Dom.one {M : PM} (h : M.Dom) (o : POp) : (M.oneM o).Dom := by
  unfold PM.oneM
  split
  · exact h
  split
  · intro k hk
    simp only [PM.pop] at hk ⊢
    split at hk
    · exact absurd rfl hk
    · exact h k hk
  split
  · unfold PM.make
    split
    · intro k hk
      simp only [PM.mk'] at hk ⊢
      split at hk
      · rename_i e
        push_cast
        omega
      · have := h k hk
        push_cast
        omega
    · exact h
  split
  · unfold PM.store
    split
    · intro k hk
      simp only [PM.put] at hk ⊢
      split at hk
      · refine h k fun q => hk ?_
        rw [q]
        rfl
      · exact h k hk
    · exact h
  split
  · unfold PM.setGlobal
    split
    · exact h
    · exact h
  split
  · unfold PM.drop
    split
    · intro k hk
      simp only at hk ⊢
      split at hk
      · exact absurd rfl hk
      · exact h k hk
    · exact h
  · exact h
end Go.Proofs.Ytabfmoedbnpihaa
