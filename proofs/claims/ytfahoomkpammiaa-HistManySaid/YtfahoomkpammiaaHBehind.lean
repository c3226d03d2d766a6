/- A step towards the laws on histories: behind, and the function that it hands back. No conditions of its own beyond those that its theorems name. -/
import Derived.Test.YtfahoomkpammiaaHMade
import Derived.RangeFuncNested
import Derived.RangeFuncBound
import Derived.RangeFuncCalls
import Derived.RangeFuncLeaves
import Derived.RangeFuncBox
import Derived.Shelf.Abstract
import Derived.Shelf.RegionOpen
import Derived.OwnWalkIn
import Derived.TacticsInMore
import Derived.LoopNIn
import Derived.LoopIn
namespace Go.Proofs.Ytfahoomkpammiaa
open Go.RowKit Go.MapKept Go.Shelf Go.Proofs.YtfahoomkpammiaaW.PrintWords Go.Proofs.YtfahoomkpammiaaW.PrintLast Go.Proofs.YtfahoomkpammiaaW.PrintMore Go.Proofs.Ytfahoomkpammiaa.PHistOrders

/-- the cells of a call -/
abbrev callCells (c : S70) (A7 : Option Addr) (c7 : Nat) (A8 : Option Addr) (c8 : Nat) : Array Value :=
  #[.int .i64 c.f0, .int .i64 c.f1, .int .i64 c.f2.f0, .int .i64 c.f2.f1, .string c.f2.f2, .bool c.f3.f0, .string c.f3.f1, .slice A7 c.f3.f2.length c7, .slice A8 c.f3.f3.length c8]
/-- what behind has laid: three blocks -/
structure Laid (w : World) (n0 : Nat) (p : Nat) (i : Int) (c : S70) (A7 : Option Addr) (c7 : Nat) (A8 : Option Addr) (c8 : Nat) : Prop where
  b : w.heap[n0]? = some (.cells #[.pointer (some ⟨p, 0, none⟩)] 55 (0, 0))
  i : w.heap[n0 + 1]? = some (.cells #[.int .i64 i] 3 (0, 0))
  c : w.heap[n0 + 2]? = some (.cells (callCells c A7 c7 A8 c8) 65 (0, 0))
theorem Laid.of {w w1 : World} {n0 p : Nat} {i : Int} {c : S70} {A7 : Option Addr} {c7 : Nat} {A8 : Option Addr} {c8 : Nat} (h : Laid w n0 p i c A7 c7 A8 c8) (hk : ∀ b, b = n0 ∨ b = n0 + 1 ∨ b = n0 + 2 → w1.heap[b]? = w.heap[b]?) : Laid w1 n0 p i c A7 c7 A8 c8 :=
  ⟨(hk _ (.inl rfl)).trans h.b, (hk _ (.inr (.inl rfl))).trans h.i, (hk _ (.inr (.inr rfl))).trans h.c⟩

set_option maxRecDepth 100000 in
set_option maxHeartbeats 1000000 in
theorem behind_calls {w0 w : World} {p : Nat} {cs : List S70} {mk : Mk} {A : Option Addr} {cc b : Nat} (h : BookAt w0 p cs mk A cc b) (h0 : Below w0.heap.size w0 w) (i : Nat) (hi : i < cs.length) :
    Calls Try.prog 28 #[.pointer (some ⟨p, 0, none⟩), .int .i64 i] w fun e w' =>
      e = .returned (.func (.func 46) #[] #[.pointer (some ⟨w.heap.size, 0, none⟩), .pointer (some ⟨w.heap.size + 1, 0, none⟩), .pointer (some ⟨w.heap.size + 2, 0, none⟩)]) ∧ Below w.heap.size w w' ∧ w'.heap.size = w.heap.size + 3 ∧
      ∃ A7 c7 A8 c8, (rd_T70 cs i).f3.f2.length ≤ c7 ∧ (Kd.int .i64).C w0 A7 (rd_T70 cs i).f3.f2.length (rd_T70 cs i).f3.f2 ∧ Laid w' w.heap.size p i (rd_T70 cs i) A7 c7 A8 c8 := by
  have c0 := blk_cell (h.below h0).blk (i := 0) rfl
  have p0 := blk_lt (h.below h0).blk
  obtain ⟨ad, E7, e7, E8, e8, hA, q0, q1, q2, q3, q4, q5, q6, q7, q8, l7, g7, l8, g8⟩ := at_T70 h.row i (by omega) (by omega)
  subst hA
  simp only [Int.toNat_natCast] at q0 q1 q2 q3 q4 q5 q6 q7 q8
  have mv0 : ∀ {p : Addr} {u : Value}, w0.cell? p = some u → w.cell? p = some u := fun h => (h0.cell (World.block_lt_of_cell? w0 _ h)).trans h
  replace q0 := mv0 q0
  replace q1 := mv0 q1
  replace q2 := mv0 q2
  replace q3 := mv0 q3
  replace q4 := mv0 q4
  replace q5 := mv0 q5
  replace q6 := mv0 q6
  replace q7 := mv0 q7
  replace q8 := mv0 q8
  clear mv0
  have pa := World.block_lt_of_cell? w _ q2
  dsimp only at pa
  have hcl : cs.length ≤ 2147483647 := h.len
  have hnD : decide ((i : Int) < (cs.length : Int)) = true := by simp; omega
  have H := Lib.hid (And.intro h (And.intro l7 g7))
  clear h l7 g7 l8 g8
  have hu := Try.underlying65
  have hu2 := Try.underlying58
  obtain ⟨d, hd⟩ : ∃ d, d = rd_T70 cs i := ⟨_, rfl⟩
  rw [← hd] at q0 q1 q2 q3 q4 q5 q6 q7 q8
  have HD := Lib.hid hd
  rw [← hd]
  clear hd
  go_enter Try.func28, Try.ntmps28
  go_wp2_with fail
  refine nameW ?_
  intro V hV
  have hbV : Below w.heap.size w V := by rw [hV]; exact below_alloc (below_alloc (Below.refl _ _) _) _
  have hsV : V.heap.size = w.heap.size + 2 := by rw [hV]; simp
  have v0 : V.heap[w.heap.size]? = some (.cells #[.pointer (some ⟨p, 0, none⟩)] 55 (0, 0)) := by rw [hV]; exact blk_alloc (blk_new w _) _
  have v1 : V.heap[w.heap.size + 1]? = some (.cells #[.int .i64 i] 3 (0, 0)) := by
    have := blk_new (w.alloc (.cells #[.pointer (some ⟨p, 0, none⟩)] 55)) (.cells #[.int .i64 i] 3)
    rw [hV]
    simpa using this
  have mv : ∀ {p : Addr} {u : Value}, w.cell? p = some u → V.cell? p = some u := fun h => (hbV.cell (World.block_lt_of_cell? w _ h)).trans h
  replace q0 := mv q0
  replace q1 := mv q1
  replace q2 := mv q2
  replace q3 := mv q3
  replace q4 := mv q4
  replace q5 := mv q5
  replace q6 := mv q6
  replace q7 := mv q7
  replace q8 := mv q8
  replace c0 := mv c0
  have s0 := blk_cell v0 (i := 0) rfl
  have s1 := blk_cell v1 (i := 0) rfl
  have n1 : p < V.heap.size := by omega
  have n2 : (ad.add (i * 9)).block < V.heap.size := by omega
  have n3 : w.heap.size < V.heap.size := by omega
  have n4 : w.heap.size + 1 < V.heap.size := by omega
  have HV := Lib.hid (And.intro hbV (And.intro hsV (And.intro v0 v1)))
  clear mv hV hbV hsV v0 v1 p0 pa
  go_region
  all_goals go_wp2_with fail
  all_goals go_ret
  all_goals exact ⟨by rw [← HV.out.2.1]; rfl, below_drew1 (below_alloc HV.out.1 _), by have := HV.out.2.1; simp; omega, E7, e7, E8, e8, by rw [HD.out]; exact H.out.2.1, by rw [HD.out]; exact H.out.2.2,
    ⟨blk_drew (blk_alloc HV.out.2.2.1 _), blk_drew (blk_alloc HV.out.2.2.2 _), by rw [← HV.out.2.1]; exact blk_drew (blk_new V _)⟩⟩

/-- must the call k stand ahead of the call i? -/
def edgeB (cs : List S70) (mk : Mk) (k i : Nat) : Bool :=
  decide (k ≠ i) && (decide ((rd_T70 cs k).f1 < (rd_T70 cs i).f0) || (sawB cs mk (rd_T70 cs i) k || missedB cs mk (rd_T70 cs k) i))
abbrev Nth (n : Nat) := { k : Nat // k < n }
/-- the calls below m that must stand ahead of the call i -/
def aheadTo (cs : List S70) (mk : Mk) (n i : Nat) : (m : Nat) → m ≤ n → List (Nth n)
  | 0, _ => []
  | m + 1, h => aheadTo cs mk n i m (by omega) ++ if edgeB cs mk m i = true then [⟨m, h⟩] else []
theorem aheadTo_len (cs : List S70) (mk : Mk) (n i : Nat) : ∀ (m : Nat) (h : m ≤ n), (aheadTo cs mk n i m h).length ≤ m := by
  intro m
  induction m with
  | zero => intro h; exact Nat.le_refl _
  | succ m ih =>
    intro h
    unfold aheadTo
    rw [List.length_append]
    have := ih (by omega)
    split
    · simp; omega
    · simp; omega
/-- the blocks that a loop over behind keeps -/
def KeepB (n0 nb : Nat) (b : Nat) : Prop := b < n0 ∨ b = nb ∨ b = nb + 1 ∨ b = nb + 2
abbrev Kp (n0 nb : Nat) (W W' : World) : Prop := Only W W' fun b => ¬ KeepB n0 nb b
theorem Kp.at {n0 nb : Nat} {W W' : World} (h : Kp n0 nb W W') {b : Nat} (hb : b < W.heap.size) (hk : KeepB n0 nb b) : W'.heap[b]? = W.heap[b]? := h.block b hb fun q => q hk
theorem kpt {n0 nb : Nat} {A B C : World} (h : Kp n0 nb A B) (k : Kp n0 nb B C) : Kp n0 nb A C := h.trans' k
theorem only_putObj {W : World} {S : Nat → Prop} (l : Nat) (o : Obj) (hs : S l) : Only W (W.putObj l o) S :=
  (Only.refl W S).grown (grownBy_putObj' W l o) fun g e => by cases e; exact .inl hs
theorem kpb {n0 nb : Nat} {w : World} (hn : n0 ≤ nb) (hs : nb + 3 ≤ w.heap.size) (W : World) (l : Nat) (o o' : Obj) (hl : w.heap.size ≤ l) (_ : W.heap[l]? = some o) (_ : o.isCells = false) (_ : o.isWalk = false) : Kp n0 nb W (W.putObj l o') :=
  only_putObj l o' fun q => by unfold KeepB at q; omega

end Go.Proofs.Ytfahoomkpammiaa
