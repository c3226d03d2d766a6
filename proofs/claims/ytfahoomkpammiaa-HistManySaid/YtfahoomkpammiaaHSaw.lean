/- A step towards the laws on histories: saw and missed, and fits. No conditions of its own beyond those that its theorems name. -/
import Derived.Test.YtfahoomkpammiaaHIndex
namespace Go.Proofs.Ytfahoomkpammiaa
open Go.RowKit Go.MapKept Go.Proofs.YtfahoomkpammiaaW.PrintWords Go.Proofs.YtfahoomkpammiaaW.PrintLast Go.Proofs.YtfahoomkpammiaaW.PrintMore Go.Proofs.Ytfahoomkpammiaa.PHistOrders

/-- did the call number k make its key's value? -/
def heldB (cs : List S70) (mk : Mk) (k : Nat) : Bool := decide (mk (rd_T70 cs k).f2.f1 = some k) && decide ((rd_T70 cs k).f2.f0 = 1)
def sawTail (c : S70) (key : Int) : Bool :=
  if c.f2.f0 = 3 then (idx c.f3.f2 key).isSome else if c.f2.f0 = 1 then decide (c.f2.f1 = key) && !c.f3.f0 else decide (c.f2.f1 = key) && c.f3.f0
def missedTail (c : S70) (key : Int) : Bool :=
  if c.f2.f0 = 3 then !(idx c.f3.f2 key).isSome else if c.f2.f0 = 2 then decide (c.f2.f1 = key) && !c.f3.f0 else false
def sawB (cs : List S70) (mk : Mk) (c : S70) (k : Nat) : Bool := heldB cs mk k && sawTail c (rd_T70 cs k).f2.f1
def missedB (cs : List S70) (mk : Mk) (c : S70) (k : Nat) : Bool := heldB cs mk k && missedTail c (rd_T70 cs k).f2.f1

/-- a call handed in by value -/
abbrev callV (c : S70) (A7 : Option Addr) (c7 : Nat) (A8 : Option Addr) (c8 : Nat) : Value :=
  .agg #[.int .i64 c.f0, .int .i64 c.f1, .int .i64 c.f2.f0, .int .i64 c.f2.f1, .string c.f2.f2, .bool c.f3.f0, .string c.f3.f1, .slice A7 c.f3.f2.length c7, .slice A8 c.f3.f3.length c8]

theorem ne_forms {a b : Int} (h : a ≠ b) : (a == b) = false ∧ (a != b) = true ∧ decide (a = b) = false ∧ (decide (a = b) == false) = true := by
  refine ⟨beq_eq_false_iff_ne.mpr h, bne_iff_ne.mpr h, decide_eq_false h, by simp [h]⟩
theorem nat_ne_forms {a b : Nat} (h : a ≠ b) : (a == b) = false ∧ (a != b) = true ∧ decide (a = b) = false := by
  refine ⟨beq_eq_false_iff_ne.mpr h, bne_iff_ne.mpr h, decide_eq_false h⟩

set_option maxRecDepth 100000 in
set_option maxHeartbeats 1000000 in
theorem saw_calls {w : World} {p : Nat} {cs : List S70} {mk : Mk} {A : Option Addr} {cc b : Nat} (h : BookAt w p cs mk A cc b) (c : S70) (A7 : Option Addr) (c7 : Nat) (A8 : Option Addr) (c8 : Nat)
    (l7 : c.f3.f2.length ≤ c7) (g7 : (Kd.int .i64).C w A7 c.f3.f2.length c.f3.f2) (h7 : c.f3.f2.length ≤ 9223372036854775807) (k : Nat) (hkl : k < cs.length) :
    Calls Try.prog 47 #[.pointer (some ⟨p, 0, none⟩), callV c A7 c7 A8 c8, .int .i64 k] w fun e w' => e = .returned (.bool (sawB cs mk c k)) ∧ Below w.heap.size w w' := by
  unfold callV
  have hl := fun o : Obj => (h.below (below_alloc (Below.refl _ _) o)).look (rd_T70 cs k).f2.f1
  have c0 := blk_cell h.blk (i := 0) rfl
  have c1 := blk_cell h.blk (i := 1) rfl
  have p0 := blk_lt h.blk
  obtain ⟨ad, E7, e7, E8, e8, hA, q0, q1, q2, q3, q4, q5, q6, q7, q8, _, _, _, _⟩ := at_T70 h.row k (by omega) (by omega)
  subst hA
  simp only [Int.toNat_natCast] at q2 q3
  have pa := World.block_lt_of_cell? w _ q2
  dsimp only at pa
  have hcl : cs.length ≤ 2147483647 := h.len
  have H := Lib.hid (And.intro h (And.intro l7 (And.intro g7 h7)))
  clear h q0 q1 q4 q5 q6 q7 q8 l7 g7 h7
  have hnD : decide ((k : Int) < (cs.length : Int)) = true := by simp; omega
  have hu := Try.underlying65
  have hu2 := Try.underlying58
  have hu3 := Try.underlying40
  have hu4 := Try.underlying43
  obtain ⟨key, hkey⟩ : ∃ key, key = (rd_T70 cs k).f2.f1 := ⟨_, rfl⟩
  obtain ⟨kind, hkind⟩ : ∃ kind, kind = (rd_T70 cs k).f2.f0 := ⟨_, rfl⟩
  rw [← hkey] at hl q3
  rw [← hkind] at q2
  have HK := Lib.hid (And.intro hkey hkind)
  have hfin : sawB cs mk c k = (decide (mk key = some k) && decide (kind = 1) && sawTail c key) := by unfold sawB heldB; rw [← hkey, ← hkind]
  rw [hfin]
  clear hkey hkind hfin
  cases hmk : mk key with
  | none =>
    simp only [mkV_none hmk, Option.getD_none, Option.isSome_none] at hl
    clear hmk
    go_enter Try.func47, Try.ntmps47
    go_wp2_with fail
    go_ret
    exact ⟨rfl, below_alloc (Below.refl _ _) _⟩
  | some n =>
    simp only [mkV_some hmk, Option.getD_some, Option.isSome_some] at hl
    clear hmk
    by_cases hnk : n = k
    · subst hnk
      by_cases hk1 : kind = 1
      · subst hk1
        have hs : (decide ((some n : Option Nat) = some n) && decide ((1 : Int) = 1) && sawTail c key) = sawTail c key := by simp
        rw [hs]
        clear hs
        by_cases h3 : c.f2.f0 = 3
        · have hs : sawTail c key = (idx c.f3.f2 key).isSome := by unfold sawTail; rw [if_pos h3]
          rw [hs]
          rw [h3]
          have H3 := Lib.hid h3
          clear hs h3
          go_enter Try.func47, Try.ntmps47
          go_wp2_with fail
          refine (contains_calls A7 c7 c.f3.f2 key (Kd.C_below H.out.2.2.1 (below_alloc (Below.refl _ _) _)) H.out.2.1 (by have := H.out.2.2.2; omega)).mono ?_
          rintro e w1 ⟨rfl, hd⟩
          have HD := Lib.hid hd
          clear hd
          go_wp2_with fail
          go_ret
          exact ⟨by cases (idx c.f3.f2 key) <;> rfl, below_step (below_alloc (Below.refl _ _) _) HD.out.below⟩
        · obtain ⟨f1, f2, f3, _⟩ := ne_forms h3
          by_cases h1 : c.f2.f0 = 1
          · have hs : sawTail c key = (decide (c.f2.f1 = key) && !c.f3.f0) := by unfold sawTail; rw [if_neg h3, if_pos h1]
            rw [hs]
            rw [h1]
            have H3 := Lib.hid (And.intro h1 h3)
            clear hs h3 h1 f1 f2 f3
            by_cases hq : c.f2.f1 = key
            · rw [hq]
              clear hq
              go_enter Try.func47, Try.ntmps47
              go_wp2_with fail
              go_ret
              exact ⟨by simp, below_alloc (Below.refl _ _) _⟩
            · obtain ⟨g1, g2, g3, _⟩ := ne_forms hq
              go_enter Try.func47, Try.ntmps47
              go_wp2_with fail
              go_ret
              exact ⟨by simp [g3], below_alloc (Below.refl _ _) _⟩
          · obtain ⟨e1, e2, e3, _⟩ := ne_forms h1
            have hs : sawTail c key = (decide (c.f2.f1 = key) && c.f3.f0) := by unfold sawTail; rw [if_neg h3, if_neg h1]
            rw [hs]
            have H3 := Lib.hid (And.intro h1 h3)
            clear hs h3 h1
            by_cases hq : c.f2.f1 = key
            · rw [hq]
              clear hq
              go_enter Try.func47, Try.ntmps47
              go_wp2_with fail
              go_ret
              exact ⟨by simp, below_alloc (Below.refl _ _) _⟩
            · obtain ⟨g1, g2, g3, _⟩ := ne_forms hq
              go_enter Try.func47, Try.ntmps47
              go_wp2_with fail
              go_ret
              exact ⟨by simp [g3], below_alloc (Below.refl _ _) _⟩
      · obtain ⟨f1, f2, f3, _⟩ := ne_forms hk1
        have hs : (decide ((some n : Option Nat) = some n) && decide (kind = 1) && sawTail c key) = false := by simp [f3]
        rw [hs]
        clear hs
        go_enter Try.func47, Try.ntmps47
        go_wp2_with fail
        go_ret
        exact ⟨rfl, below_alloc (Below.refl _ _) _⟩
    · have hs : (decide ((some n : Option Nat) = some k) && decide (kind = 1) && sawTail c key) = false := by simp [hnk]
      rw [hs]
      clear hs
      obtain ⟨f1, f2, f3⟩ := nat_ne_forms hnk
      obtain ⟨g1, g2, g3, _⟩ := ne_forms (show (n : Int) ≠ (k : Int) by omega)
      go_enter Try.func47, Try.ntmps47
      go_wp2_with fail
      go_ret
      exact ⟨rfl, below_alloc (Below.refl _ _) _⟩
set_option maxRecDepth 100000 in
set_option maxHeartbeats 1000000 in
theorem missed_calls {w : World} {p : Nat} {cs : List S70} {mk : Mk} {A : Option Addr} {cc b : Nat} (h : BookAt w p cs mk A cc b) (c : S70) (A7 : Option Addr) (c7 : Nat) (A8 : Option Addr) (c8 : Nat)
    (l7 : c.f3.f2.length ≤ c7) (g7 : (Kd.int .i64).C w A7 c.f3.f2.length c.f3.f2) (h7 : c.f3.f2.length ≤ 9223372036854775807) (k : Nat) (hkl : k < cs.length) :
    Calls Try.prog 48 #[.pointer (some ⟨p, 0, none⟩), callV c A7 c7 A8 c8, .int .i64 k] w fun e w' => e = .returned (.bool (missedB cs mk c k)) ∧ Below w.heap.size w w' := by
  unfold callV
  have hl := fun o : Obj => (h.below (below_alloc (Below.refl _ _) o)).look (rd_T70 cs k).f2.f1
  have c0 := blk_cell h.blk (i := 0) rfl
  have c1 := blk_cell h.blk (i := 1) rfl
  have p0 := blk_lt h.blk
  obtain ⟨ad, E7, e7, E8, e8, hA, q0, q1, q2, q3, q4, q5, q6, q7, q8, _, _, _, _⟩ := at_T70 h.row k (by omega) (by omega)
  subst hA
  simp only [Int.toNat_natCast] at q2 q3
  have pa := World.block_lt_of_cell? w _ q2
  dsimp only at pa
  have hcl : cs.length ≤ 2147483647 := h.len
  have H := Lib.hid (And.intro h (And.intro l7 (And.intro g7 h7)))
  clear h q0 q1 q4 q5 q6 q7 q8 l7 g7 h7
  have hnD : decide ((k : Int) < (cs.length : Int)) = true := by simp; omega
  have hu := Try.underlying65
  have hu2 := Try.underlying58
  have hu3 := Try.underlying40
  have hu4 := Try.underlying43
  obtain ⟨key, hkey⟩ : ∃ key, key = (rd_T70 cs k).f2.f1 := ⟨_, rfl⟩
  obtain ⟨kind, hkind⟩ : ∃ kind, kind = (rd_T70 cs k).f2.f0 := ⟨_, rfl⟩
  rw [← hkey] at hl q3
  rw [← hkind] at q2
  have HK := Lib.hid (And.intro hkey hkind)
  have hfin : missedB cs mk c k = (decide (mk key = some k) && decide (kind = 1) && missedTail c key) := by unfold missedB heldB; rw [← hkey, ← hkind]
  rw [hfin]
  clear hkey hkind hfin
  cases hmk : mk key with
  | none =>
    simp only [mkV_none hmk, Option.getD_none, Option.isSome_none] at hl
    clear hmk
    go_enter Try.func48, Try.ntmps48
    go_wp2_with fail
    go_ret
    exact ⟨rfl, below_alloc (Below.refl _ _) _⟩
  | some n =>
    simp only [mkV_some hmk, Option.getD_some, Option.isSome_some] at hl
    clear hmk
    by_cases hnk : n = k
    · subst hnk
      by_cases hk1 : kind = 1
      · subst hk1
        have hs : (decide ((some n : Option Nat) = some n) && decide ((1 : Int) = 1) && missedTail c key) = missedTail c key := by simp
        rw [hs]
        clear hs
        by_cases h3 : c.f2.f0 = 3
        · have hs : missedTail c key = !(idx c.f3.f2 key).isSome := by unfold missedTail; rw [if_pos h3]
          rw [hs]
          rw [h3]
          have H3 := Lib.hid h3
          clear hs h3
          go_enter Try.func48, Try.ntmps48
          go_wp2_with fail
          refine (contains_calls A7 c7 c.f3.f2 key (Kd.C_below H.out.2.2.1 (below_alloc (Below.refl _ _) _)) H.out.2.1 (by have := H.out.2.2.2; omega)).mono ?_
          rintro e w1 ⟨rfl, hd⟩
          have HD := Lib.hid hd
          clear hd
          go_wp2_with fail
          go_ret
          exact ⟨by cases (idx c.f3.f2 key) <;> rfl, below_step (below_alloc (Below.refl _ _) _) HD.out.below⟩
        · obtain ⟨f1, f2, f3, _⟩ := ne_forms h3
          by_cases h1 : c.f2.f0 = 2
          · have hs : missedTail c key = (decide (c.f2.f1 = key) && !c.f3.f0) := by unfold missedTail; rw [if_neg h3, if_pos h1]
            rw [hs]
            rw [h1]
            have H3 := Lib.hid (And.intro h1 h3)
            clear hs h3 h1 f1 f2 f3
            by_cases hq : c.f2.f1 = key
            · rw [hq]
              clear hq
              go_enter Try.func48, Try.ntmps48
              go_wp2_with fail
              go_ret
              exact ⟨by simp, below_alloc (Below.refl _ _) _⟩
            · obtain ⟨g1, g2, g3, _⟩ := ne_forms hq
              go_enter Try.func48, Try.ntmps48
              go_wp2_with fail
              go_ret
              exact ⟨by simp [g3], below_alloc (Below.refl _ _) _⟩
          · obtain ⟨e1, e2, e3, _⟩ := ne_forms h1
            have hs : missedTail c key = false := by unfold missedTail; rw [if_neg h3, if_neg h1]
            rw [hs]
            have H3 := Lib.hid (And.intro h1 h3)
            clear hs h3 h1
            go_enter Try.func48, Try.ntmps48
            go_wp2_with fail
            go_ret
            exact ⟨rfl, below_alloc (Below.refl _ _) _⟩
      · obtain ⟨f1, f2, f3, _⟩ := ne_forms hk1
        have hs : (decide ((some n : Option Nat) = some n) && decide (kind = 1) && missedTail c key) = false := by simp [f3]
        rw [hs]
        clear hs
        go_enter Try.func48, Try.ntmps48
        go_wp2_with fail
        go_ret
        exact ⟨rfl, below_alloc (Below.refl _ _) _⟩
    · have hs : (decide ((some n : Option Nat) = some k) && decide (kind = 1) && missedTail c key) = false := by simp [hnk]
      rw [hs]
      clear hs
      obtain ⟨f1, f2, f3⟩ := nat_ne_forms hnk
      obtain ⟨g1, g2, g3, _⟩ := ne_forms (show (n : Int) ≠ (k : Int) by omega)
      go_enter Try.func48, Try.ntmps48
      go_wp2_with fail
      go_ret
      exact ⟨rfl, below_alloc (Below.refl _ _) _⟩
end Go.Proofs.Ytfahoomkpammiaa
