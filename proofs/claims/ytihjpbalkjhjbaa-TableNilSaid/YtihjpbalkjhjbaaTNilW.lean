/- A step towards the laws on the table: the walk of TableNil. No conditions of its own beyond those that its theorems name. -/
import Derived.Test.YtihjpbalkjhjbaaTNew
namespace Go.Proofs.Ytihjpbalkjhjbaa
open Go.RowKit Go.MapKept Go.MuLone

theorem TExt.blk {w w1 : World} {lab lab1 : TLab} (x : TExt w w1 lab lab1) {b : Nat} {o : Obj} (hb : w.heap[b]? = some o) (hl : lab b = none) : w1.heap[b]? = some o := x.only.blk hb (fun q => q hl)
theorem TExt.out {w w1 : World} {lab lab1 : TLab} (x : TExt w w1 lab lab1) {b : Nat} (hb : b < w.heap.size) (hl : lab b = none) : lab1 b = none := Decidable.byContradiction fun q => by
  rcases x.new b q with k | k
  · exact k hl
  · omega
theorem TabAt.old {w : World} {tb : Nat} {lab : TLab} {T : Int → Option ByteArray} (h : TabAt w tb lab T) : ∀ b, lab b ≠ none → b < w.heap.size := by
  obtain ⟨bm, f, cs, h⟩ := h
  exact h.old

/-- two tables and a block beside them -/
structure TwoT (w : World) (a b : Nat) (la lb : TLab) (S T : Int → Option ByteArray) (x : Nat) (o : Obj) (n0 : Nat) : Prop where
  one : TabAt w a la S
  two : TabAt w b lb T
  apart : ∀ c, la c ≠ none → lb c = none
  x1 : w.heap[x]? = some o
  xa : la x = none
  xb : lb x = none
  na : ∀ c, la c ≠ none → n0 ≤ c
  nb : ∀ c, lb c ≠ none → n0 ≤ c
theorem TwoT.left {w w1 : World} {a b x n0 : Nat} {la lb la2 : TLab} {S T S2 : Int → Option ByteArray} {o : Obj} (h : TwoT w a b la lb S T x o n0) (hn : n0 ≤ w.heap.size) (ho : TabAt w1 a la2 S2) (e : TExt w w1 la la2) : TwoT w1 a b la2 lb S2 T x o n0 := by
  have hap : ∀ c, la2 c ≠ none → lb c = none := fun c hc => by
    rcases e.new c hc with k | k
    · exact h.apart c k
    · exact Decidable.byContradiction fun q => by have := h.two.old c q; omega
  exact ⟨ho, h.two.only e.only fun c hc q => hc (h.apart c q), hap, e.blk h.x1 h.xa, e.out (blk_lt h.x1) h.xa, h.xb, fun c hc => by
    rcases e.new c hc with k | k
    · exact h.na c k
    · omega, h.nb⟩
theorem TwoT.swap {w : World} {a b x n0 : Nat} {la lb : TLab} {S T : Int → Option ByteArray} {o : Obj} (h : TwoT w a b la lb S T x o n0) : TwoT w b a lb la T S x o n0 :=
  ⟨h.two, h.one, fun c hc => Decidable.byContradiction fun q => hc (h.apart c q), h.x1, h.xb, h.xa, h.nb, h.na⟩
theorem TwoT.right {w w1 : World} {a b x n0 : Nat} {la lb lb2 : TLab} {S T T2 : Int → Option ByteArray} {o : Obj} (h : TwoT w a b la lb S T x o n0) (hn : n0 ≤ w.heap.size) (ho : TabAt w1 b lb2 T2) (e : TExt w w1 lb lb2) : TwoT w1 a b la lb2 S T2 x o n0 := (h.swap.left hn ho e).swap

set_option maxRecDepth 100000 in
set_option maxHeartbeats 2000000 in
theorem nil_walk (w : World) (k1 k2 key : Int) (s : ByteArray) (hs : s.size ≤ 140737488351232) :
    Calls Try.prog 3 #[.agg #[.int .i64 k1, .int .i64 k2, .string s], .int .i64 key] w fun e w' => e = .returned (.bool true) ∧ Fresh w w' := by
  go_enter Try.func3, Try.ntmps3
  go_wp2_with fail
  refine (nil_lookup _ key).mono ?_
  rintro e w1 ⟨rfl, rfl⟩
  go_wp2_with fail
  refine (nil_snapshot _).mono ?_
  rintro e w1 ⟨rfl, rfl⟩
  go_wp2_with fail
  refine (nil_publish _ key s).mono ?_
  rintro e w1 ⟨rfl, rfl⟩
  go_wp2_with fail
  refine (tnew _).mono ?_
  rintro e w1 ⟨ta, la, rfl, Ta, Fa, Na⟩
  have HA := Lib.hid (And.intro Ta (And.intro Fa Na))
  clear Ta Fa Na
  go_wp2_with fail
  refine (tnew w1).mono ?_
  rintro e w2 ⟨tb, lb, rfl, Tb, Fb, Nb⟩
  have hwx : w.heap.size < w1.heap.size := by have := HA.out.2.1.size; simp at this; omega
  have h2 : TwoT w2 ta tb la lb (fun _ => none) (fun _ => none) w.heap.size (.cells #[.int .i64 k1, .int .i64 k2, .string s] 23 (0, 0)) w.heap.size := by
    have hx1 := HA.out.2.1.blk (new_blk (w := w) (.cells #[.int .i64 k1, .int .i64 k2, .string s] 23)) (fun q => q)
    refine ⟨HA.out.1.only Fb (fun _ _ q => q), Tb, fun c hc => ?_, Fb.blk hx1 (fun q => q), ?_, ?_, fun c hc => ?_, fun c hc => ?_⟩
    · exact Decidable.byContradiction fun q => by have := HA.out.1.old c hc; have := Nb c q; omega
    · exact Decidable.byContradiction fun q => by have := HA.out.2.2 _ q; simp at this; omega
    · exact Decidable.byContradiction fun q => by have := Nb _ q; omega
    · have := HA.out.2.2 c hc; simp at this; omega
    · have := Nb c hc; omega
  have F2 : Fresh w w2 := ((alloc_only w _).trans' HA.out.2.1).trans' Fb
  have H2 := Lib.hid (And.intro h2 F2)
  clear Tb Fb Nb h2 F2 hwx
  have x2 : w2.cell? ⟨w.heap.size, 2, none⟩ = some (.string s) := blk_cell H2.out.1.x1 rfl
  have xl := blk_lt H2.out.1.x1
  go_wp2_with fail
  refine (tpublish_new H2.out.1.one key s rfl).mono ?_
  rintro e w3 ⟨rfl, la3, T3, X3⟩
  have H3 := Lib.hid (And.intro (H2.out.1.left H2.out.2.size T3 X3) (H2.out.2.trans X3.only fun b q => .inr (H2.out.1.na b q)))
  clear T3 X3 x2 xl
  have x2 : w3.cell? ⟨w.heap.size, 2, none⟩ = some (.string s) := blk_cell H3.out.1.x1 rfl
  have xl := blk_lt H3.out.1.x1
  go_wp2_with fail
  refine (tpublish_old H3.out.1.one key _ s (if_pos rfl)).mono ?_
  rintro e w4 ⟨rfl, T4, X4⟩
  have H4 := Lib.hid (And.intro (H3.out.1.left H3.out.2.size T4 X4) (H3.out.2.trans X4.only fun b q => .inr (H3.out.1.na b q)))
  clear T4 X4 x2 xl
  have x2 : w4.cell? ⟨w.heap.size, 2, none⟩ = some (.string s) := blk_cell H4.out.1.x1 rfl
  have xl := blk_lt H4.out.1.x1
  go_wp2_with fail
  refine (tlookup_none H4.out.1.two key rfl).mono ?_
  rintro e w5 ⟨rfl, T5, X5⟩
  have H5 := Lib.hid (And.intro (H4.out.1.right H4.out.2.size T5 X5) (H4.out.2.trans X5.only fun b q => .inr (H4.out.1.nb b q)))
  clear T5 X5 x2 xl
  have x2 : w5.cell? ⟨w.heap.size, 2, none⟩ = some (.string s) := blk_cell H5.out.1.x1 rfl
  have xl := blk_lt H5.out.1.x1
  go_wp2_with fail
  refine (tlookup_some H5.out.1.one key s (if_pos rfl)).mono ?_
  rintro e w6 ⟨rfl, T6, X6⟩
  have H6 := Lib.hid (And.intro (H5.out.1.left H5.out.2.size T6 X6) (H5.out.2.trans X6.only fun b q => .inr (H5.out.1.na b q)))
  clear T6 X6 x2 xl
  have x2 : w6.cell? ⟨w.heap.size, 2, none⟩ = some (.string s) := blk_cell H6.out.1.x1 rfl
  have xl := blk_lt H6.out.1.x1
  go_wp2_with fail
  refine (tpublish_new H6.out.1.two key _ rfl).mono ?_
  rintro e w7 ⟨rfl, lb7, T7, X7⟩
  have H7 := Lib.hid (H6.out.2.trans X7.only fun b q => .inr (H6.out.1.nb b q))
  clear T7 X7 x2 xl
  go_wp2_with fail
  go_ret
  exact ⟨rfl, H7.out⟩
end Go.Proofs.Ytihjpbalkjhjbaa
