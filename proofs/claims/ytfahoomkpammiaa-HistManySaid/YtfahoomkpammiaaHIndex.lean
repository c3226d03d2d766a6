/- A step towards the laws on histories: where a number stands in a list; whether it does. No conditions of its own beyond those that its theorems name. -/
import Derived.Test.YtfahoomkpammiaaHBook
namespace Go.Proofs.Ytfahoomkpammiaa
open Go.RowKit Go.MapKept Go.Proofs.YtfahoomkpammiaaW.PrintWords Go.Proofs.YtfahoomkpammiaaW.PrintLast Go.Proofs.YtfahoomkpammiaaW.PrintMore Go.Proofs.Ytfahoomkpammiaa.PHistOrders

/-- the first place at or behind i at which a stands -/
def idxFrom (l : List Int) (a : Int) : Nat → Nat → Option Nat
  | 0, _ => none
  | k + 1, i => if l.getD i 0 = a then some i else idxFrom l a k (i + 1)
theorem idxFrom_succ (l : List Int) (a : Int) (k i : Nat) : idxFrom l a (k + 1) i = if l.getD i 0 = a then some i else idxFrom l a k (i + 1) := rfl
def idx (l : List Int) (a : Int) : Option Nat := idxFrom l a l.length 0
def idxI : Option Nat → Int
  | none => -1
  | some i => (i : Nat)
theorem idxFrom_some {l : List Int} {a : Int} : ∀ (k i n : Nat), idxFrom l a k i = some n → i ≤ n ∧ n < i + k ∧ l.getD n 0 = a ∧ ∀ j, i ≤ j → j < n → l.getD j 0 ≠ a := by
  intro k
  induction k with
  | zero => intro i n h; cases h
  | succ k ih =>
    intro i n h
    unfold idxFrom at h
    split at h
    · rename_i hq
      obtain rfl := Option.some.inj h
      exact ⟨Nat.le_refl _, by omega, hq, fun j h1 h2 => by omega⟩
    · rename_i hq
      obtain ⟨h1, h2, h3, h4⟩ := ih (i + 1) n h
      refine ⟨by omega, by omega, h3, fun j a1 a2 => ?_⟩
      rcases Nat.eq_or_lt_of_le a1 with rfl | q
      · exact hq
      · exact h4 j q a2
theorem idxFrom_none {l : List Int} {a : Int} : ∀ (k i : Nat), idxFrom l a k i = none → ∀ j, i ≤ j → j < i + k → l.getD j 0 ≠ a := by
  intro k
  induction k with
  | zero => intro i _ j h1 h2; omega
  | succ k ih =>
    intro i h j h1 h2
    unfold idxFrom at h
    split at h
    · cases h
    · rename_i hq
      rcases Nat.eq_or_lt_of_le h1 with rfl | q
      · exact hq
      · exact ih (i + 1) h j q (by omega)
theorem idx_some {l : List Int} {a : Int} {n : Nat} (h : idx l a = some n) : n < l.length ∧ l.getD n 0 = a ∧ ∀ j, j < n → l.getD j 0 ≠ a := by
  obtain ⟨h1, h2, h3, h4⟩ := idxFrom_some _ _ _ h
  exact ⟨by omega, h3, fun j hj => h4 j (Nat.zero_le _) hj⟩
theorem idx_none {l : List Int} {a : Int} (h : idx l a = none) : ∀ j, j < l.length → l.getD j 0 ≠ a := fun j hj => idxFrom_none _ _ h j (Nat.zero_le _) (by omega)
theorem idx_isSome {l : List Int} {a : Int} : (idx l a).isSome = true ↔ a ∈ l := by
  constructor
  · intro h
    obtain ⟨n, hn⟩ := Option.isSome_iff_exists.1 h
    obtain ⟨h1, h2, _⟩ := idx_some hn
    rw [List.getD_eq_getElem?_getD, List.getElem?_eq_getElem h1] at h2
    exact h2 ▸ List.getElem_mem h1
  · intro h
    cases q : idx l a with
    | some n => rfl
    | none =>
      obtain ⟨n, hn, he⟩ := List.mem_iff_getElem.1 h
      exact absurd (by rw [List.getD_eq_getElem?_getD, List.getElem?_eq_getElem hn]; exact he) (idx_none q n hn)

theorem index_loop (l : List Int) (a : Int) (hl : l.length ≤ 9223372036854775807) : ∀ (k i r : Nat), i + r = l.length → r < k →
    slices_Index_int_int.l0 k l a (l.length : Int) i = some (idxI (idxFrom l a r i)) := by
  intro k
  induction k with
  | zero => intro i r _ h; omega
  | succ k ih =>
    intro i r hi hr
    unfold slices_Index_int_int.l0
    cases r with
    | zero =>
      rw [if_neg (by omega)]
      rfl
    | succ r =>
      have hw : wrap64 ((i : Int) + 1) = ((i + 1 : Nat) : Int) := by unfold wrap64; omega
      have e2 : rd l ((i : Nat) : Int) = l.getD i 0 := rfl
      rw [if_pos (by omega), if_pos (by omega), if_pos (by omega), hw, ih (i + 1) r (by omega) (by omega), e2, idxFrom_succ]
      by_cases hq : l.getD i 0 = a
      · rw [if_pos hq.symm, if_pos hq]; rfl
      · rw [if_neg (fun h => hq h.symm), if_neg hq]
theorem index_calls {w : World} (A : Option Addr) (c : Nat) (l : List Int) (a : Int) (hr : Kd.C (Kd.int .i64) w A l.length l) (hc : l.length ≤ c) (hl : l.length ≤ 9223372036854775807) :
    Calls Try.prog 29 #[.slice A l.length c, .int .i64 a] w fun e w' => e = .returned (.int .i64 (idxI (idx l a))) ∧ Drawn0 w w' :=
  slices_Index_int_int.calls (l.length + 1) A c l a _ w hr hc (index_loop l a hl (l.length + 1) 0 l.length (by omega) (by omega))
theorem contains_calls {w : World} (A : Option Addr) (c : Nat) (l : List Int) (a : Int) (hr : Kd.C (Kd.int .i64) w A l.length l) (hc : l.length ≤ c) (hl : l.length ≤ 9223372036854775807) :
    Calls Try.prog 60 #[.slice A l.length c, .int .i64 a] w fun e w' => e = .returned (.bool (idx l a).isSome) ∧ Drawn0 w w' := by
  cases q : idx l a with
  | none =>
    have H := Lib.hid q
    have hi := index_calls A c l a hr hc hl
    rw [q] at hi
    simp only [idxI] at hi
    clear q hr
    go_enter Try.func60, Try.ntmps60
    go_wp2_with fail
    refine hi.mono ?_
    rintro e w1 ⟨rfl, hd⟩
    go_wp2_with fail
    go_ret
    exact ⟨rfl, hd⟩
  | some n =>
    have H := Lib.hid q
    have hi := index_calls A c l a hr hc hl
    rw [q] at hi
    simp only [idxI] at hi
    have hn := (idx_some q).1
    clear q hr
    go_enter Try.func60, Try.ntmps60
    go_wp2_with fail
    refine hi.mono ?_
    rintro e w1 ⟨rfl, hd⟩
    go_wp2_with fail
    go_ret
    exact ⟨by simp, hd⟩
end Go.Proofs.Ytfahoomkpammiaa
