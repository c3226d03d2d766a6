/- A step towards the laws on histories: what begins and ends answer, and what read makes of a history, in plain words. No conditions of its own beyond those that its theorems name. -/
import Derived.Test.YtfahoomkpammiaaHBegins
import Derived.Test.YtfahoomkpammiaaPHistOrdersx3
namespace Go.Proofs.Ytfahoomkpammiaa
open Go.RowKit Go.Proofs.YtfahoomkpammiaaW.PrintWords Go.Proofs.YtfahoomkpammiaaW.PrintLast Go.Proofs.YtfahoomkpammiaaW.PrintMore Go.Proofs.Ytfahoomkpammiaa.PHistOrders

def beginsB (m : S45) : Bool := (hist_begins.f 1 m.f0 m.f1 m.f2.f0 m.f2.f1 m.f2.f2 m.f3.f0 m.f3.f1 m.f3.f2 m.f3.f3).getD false
theorem begins_some (m : S45) : hist_begins.f 1 m.f0 m.f1 m.f2.f0 m.f2.f1 m.f2.f2 m.f3.f0 m.f3.f1 m.f3.f2 m.f3.f3 = some (beginsB m) := by
  unfold beginsB
  have h : (hist_begins.f 1 m.f0 m.f1 m.f2.f0 m.f2.f1 m.f2.f2 m.f3.f0 m.f3.f1 m.f3.f2 m.f3.f3).isSome = true := by
    unfold hist_begins.f
    repeat' split
    all_goals (unfold hist_begins.j0; repeat' split)
    all_goals first | rfl | (exfalso; omega)
  obtain ⟨b, hb⟩ := Option.isSome_iff_exists.1 h
  rw [hb]
  rfl

/-- from the i-th on each key is greater than the one ahead of it -/
def ascFrom (l : List Int) (i : Nat) : Bool := decide (∀ j, j < l.length → i ≤ j → 0 < j → l.getD (j - 1) 0 < l.getD j 0)
def tailB (r : S43) : Bool := r.f0 && (r.f1.toList == ([] : List UInt8) && decide (r.f2.length = r.f3.length))
theorem ends_loop (r : S43) (hl : r.f2.length ≤ 9223372036854775807) : ∀ (k i : Nat), i ≤ r.f2.length → r.f2.length < k + i →
    hist_ends.l0 k (r.f2.length : Int) i r.f0 r.f1 r.f2 r.f3 = some (ascFrom r.f2 i && tailB r) := by
  intro k
  induction k with
  | zero => intro i h1 h2; omega
  | succ k ih =>
    intro i h1 h2
    unfold hist_ends.l0
    by_cases hi : i < r.f2.length
    · have hw : wrap64 ((i : Int) + 1) = ((i + 1 : Nat) : Int) := by unfold wrap64; omega
      have hn := ih (i + 1) (by omega) (by omega)
      rw [if_pos (by omega), hw, hn]
      have hstep : ascFrom r.f2 i = (decide (0 < i → r.f2.getD (i - 1) 0 < r.f2.getD i 0) && ascFrom r.f2 (i + 1)) := by
        unfold ascFrom
        rw [← Bool.decide_and]
        refine decide_eq_decide.2 ⟨fun h => ⟨fun h0 => h i hi (Nat.le_refl _) h0, fun j a b c => h j a (by omega) c⟩, fun h j a b c => ?_⟩
        rcases Nat.lt_or_ge i j with q | q
        · exact h.2 j a q c
        · obtain rfl : i = j := by omega
          exact h.1 c
      by_cases h0 : 0 < i
      · have hw2 : wrap64 ((i : Int) - 1) = ((i - 1 : Nat) : Int) := by unfold wrap64; omega
        rw [if_pos (by omega), hw2, if_pos (by omega), if_pos (by omega), if_pos (by omega), if_pos (by omega), hstep]
        have e1 : rd r.f2 ((i - 1 : Nat) : Int) = r.f2.getD (i - 1) 0 := rfl
        have e2 : rd r.f2 ((i : Nat) : Int) = r.f2.getD i 0 := rfl
        rw [e1, e2]
        by_cases hq : r.f2.getD (i - 1) 0 < r.f2.getD i 0
        · rw [if_neg (by omega), decide_eq_true (fun _ => hq), Bool.true_and]
        · rw [if_pos (by omega), decide_eq_false (fun q => hq (q h0)), Bool.false_and, Bool.false_and]
      · rw [if_neg (by omega), hstep, decide_eq_true (fun q => absurd q h0), Bool.true_and]
    · obtain rfl : i = r.f2.length := by omega
      have ha : ascFrom r.f2 r.f2.length = true := decide_eq_true fun j a b _ => by omega
      rw [if_neg (by omega), ha, Bool.true_and]
      unfold tailB
      cases r.f0
      · rfl
      · rw [if_pos rfl]
        by_cases hs : r.f1.toList = ([] : List UInt8)
        · rw [if_pos hs, hs]
          simp only [Bool.true_and, Option.some.injEq]
          rw [show ((([] : List UInt8) == []) = true) from rfl, Bool.true_and]
          by_cases hq : r.f2.length = r.f3.length
          · simp [hq]
          · rw [decide_eq_false hq]
            exact beq_eq_false_iff_ne.2 (by omega)
        · rw [if_neg hs]
          have : (r.f1.toList == ([] : List UInt8)) = false := beq_eq_false_iff_ne.2 hs
          rw [this]
          rfl
def endsB (o : S40) (r : S43) : Bool := (hist_ends.f (r.f2.length + 1) o.f0 o.f1 o.f2 r.f0 r.f1 r.f2 r.f3).getD false
theorem ends_some (o : S40) (r : S43) (hl : r.f2.length ≤ 9223372036854775807) : hist_ends.f (r.f2.length + 1) o.f0 o.f1 o.f2 r.f0 r.f1 r.f2 r.f3 = some (endsB o r) := by
  unfold endsB
  have h : (hist_ends.f (r.f2.length + 1) o.f0 o.f1 o.f2 r.f0 r.f1 r.f2 r.f3).isSome = true := by
    have hh := ends_loop r hl (r.f2.length + 1) 0 (Nat.zero_le _) (by omega)
    unfold hist_ends.f
    repeat' split
    all_goals first | rfl | skip
    rw [show (0 : Int) = ((0 : Nat) : Int) from rfl, hh]
    rfl
  obtain ⟨b, hb⟩ := Option.isSome_iff_exists.1 h
  rw [hb]
  rfl

/-! ### what read makes of a history -/
structure RS where
  calls : List S70
  opn : Int → Option Nat
def upd1 (f : Int → Option Nat) (k : Int) (v : Option Nat) : Int → Option Nat := fun j => if j = k then v else f j
def opEq (a b : S40) : Prop := a.f0 = b.f0 ∧ a.f1 = b.f1 ∧ a.f2 = b.f2
instance (a b : S40) : Decidable (opEq a b) := by unfold opEq; infer_instance
def rstep (i : Nat) (m : S45) (s : RS) : Option RS :=
  if m.f1 = true then
    if s.opn m.f0 = none ∧ beginsB m = true then some ⟨s.calls ++ [⟨(i : Int), 0, m.f2, z43⟩], upd1 s.opn m.f0 (some s.calls.length)⟩ else none
  else match s.opn m.f0 with
    | none => none
    | some at_ => if opEq (rd_T70 s.calls at_).f2 m.f2 ∧ endsB m.f2 m.f3 = true then
        some ⟨s.calls.set at_ ⟨(rd_T70 s.calls at_).f0, (i : Int), (rd_T70 s.calls at_).f2, m.f3⟩, upd1 s.opn m.f0 none⟩ else none
def rrun : Nat → List S45 → RS → Option RS
  | _, [], s => some s
  | i, m :: l, s => match rstep i m s with
    | none => none
    | some s' => rrun (i + 1) l s'
/-- after the first i moments -/
def rat (h : List S45) (i : Nat) : Option RS := rrun 0 (h.take i) ⟨[], fun _ => none⟩
theorem rrun_snoc (m : S45) : ∀ (l : List S45) (i : Nat) (s : RS), rrun i (l ++ [m]) s = (rrun i l s).bind fun s' => rstep (i + l.length) m s'
  | [], i, s => by
    simp only [List.nil_append, rrun, List.length_nil, Nat.add_zero, Option.bind_some]
    cases rstep i m s <;> rfl
  | a :: l, i, s => by
    simp only [List.cons_append, rrun]
    cases rstep i a s with
    | none => rfl
    | some s' =>
      dsimp only
      rw [rrun_snoc m l (i + 1) s']
      simp only [List.length_cons]
      rw [show i + 1 + l.length = i + (l.length + 1) by omega]
theorem rat_zero (h : List S45) : rat h 0 = some ⟨[], fun _ => none⟩ := rfl
theorem rat_succ (h : List S45) (i : Nat) (m : S45) (hm : h[i]? = some m) : rat h (i + 1) = (rat h i).bind fun s => rstep i m s := by
  have hi := (List.getElem?_eq_some_iff.1 hm).1
  unfold rat
  rw [List.take_add_one, hm, Option.toList_some, rrun_snoc, List.length_take, Nat.min_eq_left (by omega), Nat.zero_add]
end Go.Proofs.Ytfahoomkpammiaa
