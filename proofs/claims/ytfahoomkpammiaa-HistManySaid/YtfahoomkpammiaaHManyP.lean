/- A step towards HistMany: n Lookups of clients of their own, all at one time, in plain words. No conditions of its own beyond those that its theorems name. -/
import Derived.Test.YtfahoomkpammiaaHKst
namespace Go.Proofs.Ytfahoomkpammiaa
open Go.RowKit Go.MapKept Go.Proofs.YtfahoomkpammiaaW.PrintWords Go.Proofs.YtfahoomkpammiaaW.PrintLast Go.Proofs.YtfahoomkpammiaaW.PrintMore Go.Proofs.Ytfahoomkpammiaa.PHistOrders

def hmO : S40 := ⟨2, 3, ⟨#[]⟩⟩
def hmB (i : Nat) : S45 := ⟨(i : Int), true, hmO, z43⟩
def hmE (i : Nat) : S45 := ⟨(i : Int), false, hmO, z43⟩
def hm1 (n : Nat) : List S45 := (List.range n).map hmB
def hm2 (n : Nat) : List S45 := (List.range n).map hmE
def hm (N : Nat) : List S45 := hm1 N ++ hm2 N
theorem hm1_succ (n : Nat) : hm1 (n + 1) = hm1 n ++ [hmB n] := by simp [hm1, List.range_succ]
theorem hm2_succ (n : Nat) : hm2 (n + 1) = hm2 n ++ [hmE n] := by simp [hm2, List.range_succ]
theorem hm_len (N : Nat) : (hm N).length = N + N := by simp [hm, hm1, hm2]
theorem hm_at1 {N i : Nat} (h : i < N) : (hm N)[i]? = some (hmB i) := by
  unfold hm
  rw [List.getElem?_append_left (by simp [hm1]; exact h)]
  simp [hm1, List.getElem?_range h]
theorem hm_at2 {N i : Nat} (h : i < N) : (hm N)[N + i]? = some (hmE i) := by
  unfold hm
  rw [List.getElem?_append_right (by simp [hm1])]
  simp [hm1, hm2, List.getElem?_range h]
theorem hm_begins (i : Nat) : beginsB (hmB i) = true := by
  unfold beginsB hmB hmO z43
  simp [hist_begins.f, hist_begins.j0, wrap64]
theorem hm_ends : endsB hmO z43 = true := by
  unfold endsB hmO z43
  simp [hist_ends.f, wrap64]

def cB (j : Nat) : S70 := ⟨(j : Int), 0, hmO, z43⟩
def cE (N j : Nat) : S70 := ⟨(j : Int), (N + j : Nat), hmO, z43⟩
theorem rd_range (f : Nat → S70) {n j : Nat} (h : j < n) : rd_T70 ((List.range n).map f) j = f j := by
  unfold rd_T70
  rw [Int.toNat_natCast, List.getD_eq_getElem?_getD, List.getElem?_map, List.getElem?_range h]
  rfl
theorem hm_rat1 (N : Nat) : ∀ i, i ≤ N → rat (hm N) i = some ⟨(List.range i).map cB, fun k => if 0 ≤ k ∧ k < (i : Int) then some k.toNat else none⟩ := by
  intro i
  induction i with
  | zero =>
    intro _
    rw [rat_zero]
    congr 2
    funext k
    rw [if_neg (by omega)]
  | succ i ih =>
    intro hi
    rw [rat_succ _ i _ (hm_at1 (by omega)), ih (by omega)]
    show rstep i (hmB i) _ = _
    unfold rstep
    rw [if_pos (show (hmB i).f1 = true from rfl), if_pos ⟨if_neg (show ¬ ((0 : Int) ≤ (i : Int) ∧ (i : Int) < (i : Int)) by omega), hm_begins i⟩]
    congr 2
    · rw [List.range_succ, List.map_append]
      rfl
    · funext k
      unfold upd1
      show (if k = (i : Int) then _ else _) = _
      by_cases hk : k = (i : Int)
      · rw [if_pos hk, if_pos (by omega), List.length_map, List.length_range, hk, Int.toNat_natCast]
      · rw [if_neg hk]
        show (if _ then _ else _) = _
        by_cases h2 : 0 ≤ k ∧ k < (i : Int)
        · rw [if_pos h2, if_pos (by omega)]
        · rw [if_neg h2, if_neg (by omega)]
theorem hm_rat2 (N : Nat) : ∀ i, i ≤ N → rat (hm N) (N + i) = some ⟨(List.range N).map (fun j => if j < i then cE N j else cB j), fun k => if (i : Int) ≤ k ∧ k < (N : Int) then some k.toNat else none⟩ := by
  intro i
  induction i with
  | zero =>
    intro _
    rw [Nat.add_zero, hm_rat1 N N (Nat.le_refl _)]
    congr 2
  | succ i ih =>
    intro hi
    rw [show N + (i + 1) = N + i + 1 from rfl, rat_succ _ (N + i) _ (hm_at2 (by omega)), ih (by omega)]
    show rstep (N + i) (hmE i) _ = _
    have hrd : rd_T70 ((List.range N).map (fun j => if j < i then cE N j else cB j)) i = cB i := by
      rw [rd_range _ (by omega), if_neg (by omega)]
    unfold rstep
    rw [if_neg (by show ¬ (false = true); simp)]
    have ho : (if (i : Int) ≤ (i : Int) ∧ (i : Int) < (N : Int) then some (i : Int).toNat else none) = some i := by rw [if_pos (by omega), Int.toNat_natCast]
    show (match (if (i : Int) ≤ (i : Int) ∧ (i : Int) < (N : Int) then some (i : Int).toNat else none) with | none => none | some at_ => _) = _
    rw [ho]
    dsimp only
    rw [hrd, if_pos ⟨⟨rfl, rfl, rfl⟩, hm_ends⟩]
    congr 2
    · apply List.ext_getElem?
      intro j
      rw [List.getElem?_set, List.getElem?_map, List.getElem?_map]
      by_cases hj : i = j
      · subst hj
        rw [if_pos rfl, if_pos (by simp; omega), List.getElem?_range (by omega)]
        simp [cE, cB, hmE]
      · rw [if_neg hj]
        by_cases hjN : j < N
        · rw [List.getElem?_range hjN]
          simp only [Option.map_some]
          by_cases h2 : j < i
          · rw [if_pos h2, if_pos (by omega)]
          · rw [if_neg h2, if_neg (by omega)]
        · rw [List.getElem?_eq_none (by simp; omega)]
          rfl
    · funext k
      unfold upd1
      show (if k = (i : Int) then none else _) = _
      by_cases hk : k = (i : Int)
      · rw [if_pos hk, if_neg (by omega)]
      · rw [if_neg hk]
        show (if _ then _ else _) = _
        by_cases h2 : (i : Int) ≤ k ∧ k < (N : Int)
        · rw [if_pos h2, if_pos (by omega)]
        · rw [if_neg h2, if_neg (by omega)]
def cEs (N : Nat) : List S70 := (List.range N).map (cE N)
theorem hm_rat (N : Nat) : rat (hm N) (hm N).length = some ⟨cEs N, fun _ => none⟩ := by
  rw [hm_len, hm_rat2 N N (Nat.le_refl _)]
  congr 2
  · unfold cEs
    apply List.map_congr_left
    intro j hj
    rw [if_pos (List.mem_range.1 hj)]
  · funext k
    rw [if_neg (by omega)]
theorem cEs_len (N : Nat) : (cEs N).length = N := by simp [cEs]
theorem cEs_rd {N j : Nat} (h : j < N) : rd_T70 (cEs N) j = cE N j := rd_range _ h
theorem hm_read (N : Nat) (h : N ≤ 64) : readB (hm N) = some (cEs N) := readB_yes (hm_rat N) ⟨fun _ => rfl, by show (cEs N).length ≤ 64; rw [cEs_len]; exact h⟩
theorem hm_refused (N : Nat) (h : 64 < N) : readB (hm N) = none := readB_no (hm_rat N) fun q => by have : (cEs N).length ≤ 64 := q.2; rw [cEs_len] at this; omega

theorem hm_mkAt (N : Nat) : ∀ i, i ≤ N → mkAt (cEs N) i = some fun _ => none := by
  intro i
  induction i with
  | zero => intro _; rfl
  | succ i ih =>
    intro hi
    rw [mkAt_succ, ih (by omega)]
    show mstep i (rd_T70 (cEs N) i) _ = _
    rw [cEs_rd (by omega)]
    unfold mstep
    rw [if_neg (by rintro ⟨q, _⟩; cases q)]
theorem hm_made (N : Nat) : madeB (cEs N) = some fun _ => none := by
  unfold madeB
  rw [cEs_len, hm_mkAt N N (Nat.le_refl _)]
  show (if _ then _ else _) = _
  rw [if_pos]
  intro i hi
  rw [cEs_rd hi]
  rfl
theorem hm_edge {N k i : Nat} (hk : k < N) (hi : i < N) : edgeB (cEs N) (fun _ => none) k i = false := by
  unfold edgeB sawB missedB heldB
  rw [cEs_rd hk, cEs_rd hi]
  have : decide ((cE N k).f1 < (cE N i).f0) = false := decide_eq_false (by show ¬ (((N + k : Nat) : Int) < (i : Int)); omega)
  rw [this]
  simp
theorem hm_ahead {N i : Nat} (hi : i < N) (n : Nat) (hn : n = N) : ∀ (m : Nat) (h : m ≤ n), aheadTo (cEs N) (fun _ => none) n i m h = [] := by
  subst hn
  intro m
  induction m with
  | zero => intro h; rfl
  | succ m ih =>
    intro h
    rw [aheadTo_no h (hm_edge h hi)]
    exact ih _
theorem hm_pst (N : Nat) : ∀ i, i ≤ N → pst (cEs N) (fun _ => none) i = (List.replicate N 0, List.replicate N []) := by
  intro i
  induction i with
  | zero => intro _; show (List.replicate (cEs N).length 0, List.replicate (cEs N).length []) = _; rw [cEs_len]
  | succ i ih =>
    intro hi
    show kputs i (pst _ _ i) (aheadTo (cEs N) (fun _ => none) (cEs N).length i (cEs N).length (Nat.le_refl _)) = _
    rw [hm_ahead (by omega) (cEs N).length (cEs_len N) (cEs N).length (Nat.le_refl _), ih (by omega)]
    rfl
theorem idxFrom_eq {l : List Int} {a : Int} {n : Nat} (hn : l.getD n 0 = a) : ∀ (k i : Nat), i ≤ n → n < i + k → (∀ j, i ≤ j → j < n → l.getD j 0 ≠ a) → idxFrom l a k i = some n := by
  intro k
  induction k with
  | zero => intro i h1 h2; omega
  | succ k ih =>
    intro i h1 h2 h3
    rw [idxFrom_succ]
    rcases Nat.eq_or_lt_of_le h1 with rfl | q
    · rw [if_pos hn]
    · rw [if_neg (h3 i (Nat.le_refl _) q)]
      exact ih (i + 1) q (by omega) fun j a1 a2 => h3 j (by omega) a2
theorem idx_eq {l : List Int} {a : Int} {n : Nat} (h : n < l.length) (hn : l.getD n 0 = a) (hj : ∀ j, j < n → l.getD j 0 ≠ a) : idx l a = some n := idxFrom_eq hn _ 0 (Nat.zero_le _) (by omega) fun j _ q => hj j q
def hmW (N j : Nat) : List Int := List.replicate j (-1) ++ List.replicate (N - j) 0
theorem hmW_at {N j i : Nat} : (hmW N j).getD i 0 = if i < j then -1 else 0 := by
  unfold hmW
  rw [List.getD_eq_getElem?_getD]
  by_cases q : i < j
  · rw [if_pos q, List.getElem?_append_left (by simpa using q), List.getElem?_replicate, if_pos q]
    rfl
  · rw [if_neg q, List.getElem?_append_right (by simp; omega), List.getElem?_replicate]
    split <;> rfl
theorem hm_kat (N : Nat) : ∀ j, j ≤ N → kat (List.replicate N []) (List.replicate N 0) j = some (List.range j, hmW N j) := by
  intro j
  induction j with
  | zero => intro _; simp [kat, hmW]
  | succ j ih =>
    intro hj
    show (kat _ _ j).bind _ = _
    rw [ih (by omega)]
    show kstep _ (List.range j, hmW N j) = _
    unfold kstep
    rw [idx_eq (n := j) (by simp [hmW]; omega) (by rw [hmW_at, if_neg (by omega)]) (fun q hq => by rw [hmW_at, if_pos hq]; simp)]
    have hg : (List.replicate N ([] : List Int)).getD j [] = [] := by rw [List.getD_eq_getElem?_getD, List.getElem?_replicate]; split <;> rfl
    simp only [Option.map_some, hg, List.foldl_nil]
    congr 2
    · rw [List.range_succ]
    · unfold hmW
      rw [List.set_append_right _ _ (by simp)]
      simp only [List.length_replicate, Nat.sub_self]
      rw [show N - j = (N - (j + 1)) + 1 by omega, List.replicate_succ, List.set_cons_zero, List.replicate_succ', List.append_assoc]
      rfl
theorem hm_ord (N : Nat) (h : N ≤ 64) : ordP (hm N) = some (some ((List.range N).map fun j : Nat => (j : Int))) := by
  unfold ordP
  rw [hm_read N h]
  simp only [Option.map_some, hm_made, Option.bind_some]
  unfold ordB
  rw [cEs_len, hm_pst N N (Nat.le_refl _), hm_kat N N (Nat.le_refl _)]
  simp only [Option.map_some]
  congr 2
  unfold froms
  apply List.map_congr_left
  intro j hj
  rw [cEs_rd (List.mem_range.1 hj)]
  rfl
theorem hm_ord_no (N : Nat) (h : 64 < N) : ordP (hm N) = none := by
  unfold ordP
  rw [hm_refused N h]
  rfl
end Go.Proofs.Ytfahoomkpammiaa
