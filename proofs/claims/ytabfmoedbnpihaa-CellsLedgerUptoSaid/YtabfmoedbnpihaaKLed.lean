/- A step towards the laws on the cells of a run: the plain law of CellsLedger: the ledger is the memory's shadow. No conditions of its own beyond those that its theorems name. -/
import Derived.Test.YtabfmoedbnpihaaKApart
namespace Go.Proofs.Ytabfmoedbnpihaa
open Go.RowKit Go.MapKept

/-- a cell that was made, as the ledger has it -/
structure PMade where
  number : Int
  fields : List (Int × Int)
  depth : Int
  heap : Bool
  there : Bool
structure PL where
  depth : Nat
  all : List PMade

structure Led (M : PM) (L : PL) : Prop where
  made : M.made = L.all.length
  num : ∀ (i : Nat) m, L.all[i]? = some m → m.number = (i : Int) + 1 ∧ 1 ≤ m.fields.length ∧ m.fields.length ≤ 8 ∧ m.depth ≤ L.depth
  cells : ∀ (i : Nat) m, L.all[i]? = some m → M.cells ((i : Int) + 1) = if m.there = true then some m.fields else none
  dom : M.Dom
  dep : M.frames.length = L.depth
  fr : ∀ (d : Nat) l, M.frames[d]? = some l → ∀ x, x ∈ l ↔ ∃ (i : Nat) (m : PMade), L.all[i]? = some m ∧ x = (i : Int) + 1 ∧ m.depth = (d : Int) + 1 ∧ m.heap = false

theorem Led.start (n : Int) : Led (PM.new n) ⟨0, []⟩ :=
  ⟨rfl, fun i m h => by simp at h, fun i m h => by simp at h, fun k hk => absurd rfl hk, rfl, fun d l h => by simp [PM.new] at h⟩

def PL.push (L : PL) : PL := ⟨L.depth + 1, L.all⟩
theorem Led.push {M : PM} {L : PL} (h : Led M L) : Led M.push L.push := by
  refine ⟨h.made, fun i m hi => ?_, h.cells, h.dom, by simp [PM.push, PL.push, h.dep], fun d l hd x => ?_⟩
  · obtain ⟨a, b, c, e⟩ := h.num i m hi
    exact ⟨a, b, c, by simp [PL.push]; omega⟩
  · by_cases hlt : d < M.frames.length
    · exact h.fr d l (by simpa [PM.push, List.getElem?_append_left hlt] using hd) x
    · have hl := (List.getElem?_eq_some_iff.1 hd).1
      have he : d = M.frames.length := by simp [PM.push] at hl; omega
      subst he
      have : l = [] := by simpa [PM.push] using hd.symm
      subst this
      constructor
      · intro q
        cases q
      · rintro ⟨i, m, h1, _, h3, _⟩
        have := (h.num i m h1).2.2.2
        rw [h.dep] at h3
        omega

def popF (d : Int) (m : PMade) : PMade := if m.depth = d then { m with depth := -1, there := m.there && m.heap } else m
def PL.pop (L : PL) : PL := ⟨L.depth - 1, L.all.map (popF L.depth)⟩
theorem Led.popNone {M : PM} {L : PL} (h : Led M L) (h0 : L.depth = 0) : M.popErr = 30 ∧ Led M.pop L := by
  have hf : M.frames = [] := List.eq_nil_of_length_eq_zero (by rw [h.dep, h0])
  refine ⟨by simp [PM.popErr, hf], h.made, h.num, fun i m hi => ?_, fun k hk => ?_, by simp [PM.pop, hf, h0], fun d l hd => by simp [PM.pop, hf] at hd⟩
  · have := h.cells i m hi
    simpa [PM.pop, hf] using this
  · exact h.dom k (by simpa [PM.pop, hf] using hk)
theorem Led.pop {M : PM} {L : PL} (h : Led M L) (h0 : L.depth ≠ 0) : M.popErr = 0 ∧ Led M.pop L.pop := by
  have hlen : M.frames.length ≠ 0 := by rw [h.dep]; exact h0
  obtain ⟨last, hlast⟩ : ∃ l, M.frames.getLast? = some l := by
    cases hq : M.frames.getLast? with
    | none => simp at hq; simp [hq] at hlen
    | some l => exact ⟨l, rfl⟩
  have hidx : M.frames[L.depth - 1]? = some last := by rw [List.getLast?_eq_getElem?, h.dep] at hlast; exact hlast
  have hfr := h.fr _ _ hidx
  have hmem : ∀ (i : Nat) m, L.all[i]? = some m → (((i : Int) + 1 ∈ last) ↔ m.depth = L.depth ∧ m.heap = false) := fun i m hi => by
    rw [hfr]
    constructor
    · rintro ⟨j, m', h1, h2, h3, h4⟩
      have : i = j := by omega
      subst this
      rw [h1] at hi
      injection hi with hi
      subst hi
      exact ⟨by omega, h4⟩
    · rintro ⟨h3, h4⟩
      exact ⟨i, m, hi, rfl, by omega, h4⟩
  refine ⟨by simp [PM.popErr]; intro e; rw [e] at hlen; exact hlen rfl, by simp [PM.pop, PL.pop, h.made], fun i m hi => ?_, fun i m hi => ?_, fun k hk => ?_, by simp [PM.pop, PL.pop, h.dep], fun d l hd x => ?_⟩
  · simp only [PL.pop, List.getElem?_map, Option.map_eq_some_iff] at hi
    obtain ⟨m', h1, rfl⟩ := hi
    obtain ⟨a, b, c, e⟩ := h.num i m' h1
    unfold popF PL.pop
    split
    · exact ⟨a, b, c, by dsimp only; omega⟩
    · exact ⟨a, b, c, by dsimp only; omega⟩
  · simp only [PL.pop, List.getElem?_map, Option.map_eq_some_iff] at hi
    obtain ⟨m', h1, rfl⟩ := hi
    have hm := hmem i m' h1
    have hc := h.cells i m' h1
    simp only [PM.pop, hlast, Option.getD_some]
    unfold popF
    by_cases hd : m'.depth = L.depth
    · rw [if_pos hd]
      dsimp only
      cases hh : m'.heap
      · rw [if_pos (hm.2 ⟨hd, hh⟩)]
        simp
      · rw [if_neg (fun q => by have := (hm.1 q).2; rw [hh] at this; cases this), hc]
        simp
    · rw [if_neg hd, if_neg (fun q => hd (hm.1 q).1), hc]
  · simp only [PM.pop] at hk
    split at hk
    · exact absurd rfl hk
    · exact h.dom k hk
  · have hdl : d < L.depth - 1 := by
      have := (List.getElem?_eq_some_iff.1 hd).1
      simp [PM.pop, h.dep] at this
      omega
    have hd' : M.frames[d]? = some l := by
      simp only [PM.pop, List.getElem?_dropLast] at hd
      split at hd
      · exact hd
      · cases hd
    rw [h.fr d l hd' x]
    constructor
    · rintro ⟨i, m, h1, h2, h3, h4⟩
      exact ⟨i, popF L.depth m, by simp [PL.pop, h1], h2, by unfold popF; rw [if_neg (by omega)]; exact h3, by unfold popF; rw [if_neg (by omega)]; exact h4⟩
    · rintro ⟨i, m, h1, h2, h3, h4⟩
      simp only [PL.pop, List.getElem?_map, Option.map_eq_some_iff] at h1
      obtain ⟨m', k1, rfl⟩ := h1
      unfold popF at h3 h4
      split at h3
      · dsimp only at h3
        omega
      · rename_i hne
        rw [if_neg hne] at h4
        exact ⟨i, m', k1, h2, h3, h4⟩

def PL.make (L : PL) (n : Int) (heap : Bool) : PL := if L.depth = 0 then L else ⟨L.depth, L.all ++ [⟨L.all.length + 1, List.replicate n.toNat (0, 0), L.depth, heap, true⟩]⟩
theorem Led.makeNone {M : PM} {L : PL} (h : Led M L) (h0 : L.depth = 0) (n : Int) (heap : Bool) (hn1 : 1 ≤ n) (hn8 : n ≤ 8) : M.mkErr n = 30 ∧ M.mkN n = 0 ∧ M.make n heap = M := by
  have e : M.mkErr n = 30 := by
    unfold PM.mkErr
    rw [if_neg (by omega), if_pos (by rw [h.dep, h0])]
  exact ⟨e, by unfold PM.mkN; rw [if_neg (by rw [e]; decide)], by unfold PM.make; rw [if_neg (by rw [e]; decide)]⟩
theorem Led.make {M : PM} {L : PL} (h : Led M L) (h0 : L.depth ≠ 0) (n : Int) (heap : Bool) (hn1 : 1 ≤ n) (hn8 : n ≤ 8) : M.mkErr n = 0 ∧ M.mkN n = (L.all.length : Int) + 1 ∧ Led (M.make n heap) (L.make n heap) := by
  have e : M.mkErr n = 0 := by
    unfold PM.mkErr
    rw [if_neg (by omega), if_neg (by rw [h.dep]; exact h0)]
  refine ⟨e, by unfold PM.mkN; rw [if_pos e, h.made], ?_⟩
  unfold PM.make PL.make
  rw [if_pos e, if_neg h0]
  have hnew : ∀ (i : Nat) m, (L.all ++ [(⟨L.all.length + 1, List.replicate n.toNat (0, 0), L.depth, heap, true⟩ : PMade)])[i]? = some m → L.all[i]? = some m ∨ (i = L.all.length ∧ m = ⟨L.all.length + 1, List.replicate n.toNat (0, 0), L.depth, heap, true⟩) := fun i m hi => by
    by_cases hlt : i < L.all.length
    · rw [List.getElem?_append_left hlt] at hi
      exact .inl hi
    · have hl := (List.getElem?_eq_some_iff.1 hi).1
      have he : i = L.all.length := by simp at hl; omega
      subst he
      simp at hi
      exact .inr ⟨rfl, hi.symm⟩
  have hold : ∀ (i : Nat) m, L.all[i]? = some m → (L.all ++ [(⟨L.all.length + 1, List.replicate n.toNat (0, 0), L.depth, heap, true⟩ : PMade)])[i]? = some m := fun i m hi => by
    rw [List.getElem?_append_left (List.getElem?_eq_some_iff.1 hi).1]
    exact hi
  have hlt : ∀ {i : Nat} {m}, L.all[i]? = some m → i < L.all.length := fun hi => (List.getElem?_eq_some_iff.1 hi).1
  refine ⟨by simp [PM.mk', h.made], fun i m hi => ?_, fun i m hi => ?_, fun k hk => ?_, ?_, fun d l hd x => ?_⟩
  · rcases hnew i m hi with q | ⟨rfl, rfl⟩
    · exact h.num i m q
    · exact ⟨rfl, by simp; omega, by simp; omega, by simp⟩
  · simp only [PM.mk', h.made]
    rcases hnew i m hi with q | ⟨rfl, rfl⟩
    · rw [if_neg (by have := hlt q; omega)]
      exact h.cells i m q
    · simp
  · simp only [PM.mk'] at hk ⊢
    split at hk
    · rename_i q
      push_cast
      omega
    · have := h.dom k hk
      push_cast
      omega
  · simp only [PM.mk']
    split <;> simp [h.dep]
  · have hdl : d < L.depth := by
      have hl := (List.getElem?_eq_some_iff.1 hd).1
      simp only [PM.mk'] at hl
      split at hl <;> simp [h.dep] at hl <;> exact hl
    cases heap with
    | true =>
      have hd' : M.frames[d]? = some l := by simpa [PM.mk'] using hd
      rw [h.fr d l hd' x]
      constructor
      · rintro ⟨i, m, h1, h2⟩
        exact ⟨i, m, hold i m h1, h2⟩
      · rintro ⟨i, m, h1, h2, h3, h4⟩
        rcases hnew i m h1 with q | ⟨rfl, rfl⟩
        · exact ⟨i, m, q, h2, h3, h4⟩
        · cases h4
    | false =>
      have hd2 : (M.frames.modify (M.frames.length - 1) fun l => l ++ [(M.made : Int) + 1])[d]? = some l := by simpa [PM.mk'] using hd
      rw [List.getElem?_modify] at hd2
      obtain ⟨l0, hl0⟩ : ∃ l0, M.frames[d]? = some l0 := ⟨M.frames[d]'(by rw [h.dep]; exact hdl), List.getElem?_eq_getElem _⟩
      have hf := h.fr d l0 hl0 x
      rw [hl0] at hd2
      by_cases hdd : M.frames.length - 1 = d
      · simp [hdd] at hd2
        subst hd2
        rw [List.mem_append, hf]
        constructor
        · rintro (⟨i, m, h1, h2⟩ | q)
          · exact ⟨i, m, hold i m h1, h2⟩
          · simp at q
            refine ⟨L.all.length, _, by simp; rfl, by rw [q, h.made], ?_, rfl⟩
            dsimp only
            rw [h.dep] at hdd
            omega
        · rintro ⟨i, m, h1, h2, h3, h4⟩
          rcases hnew i m h1 with q | ⟨rfl, rfl⟩
          · exact .inl ⟨i, m, q, h2, h3, h4⟩
          · exact .inr (by simp [h2, h.made])
      · simp [hdd] at hd2
        subst hd2
        rw [hf]
        constructor
        · rintro ⟨i, m, h1, h2⟩
          exact ⟨i, m, hold i m h1, h2⟩
        · rintro ⟨i, m, h1, h2, h3, h4⟩
          rcases hnew i m h1 with q | ⟨rfl, rfl⟩
          · exact ⟨i, m, q, h2, h3, h4⟩
          · dsimp only at h3
            rw [h.dep] at hdd
            omega

theorem set_cases {l : List PMade} {c : Nat} {m' : PMade} {i : Nat} {m : PMade} (h : (l.set c m')[i]? = some m) : (i = c ∧ m = m') ∨ (i ≠ c ∧ l[i]? = some m) := by
  by_cases hi : i = c
  · subst hi
    rw [List.getElem?_set] at h
    simp at h
    exact .inl ⟨rfl, h.2.symm⟩
  · rw [List.getElem?_set_ne (fun e => hi e.symm)] at h
    exact .inr ⟨hi, h⟩
theorem set_old {l : List PMade} {c : Nat} {m0 m' : PMade} (hc : l[c]? = some m0) : (l.set c m')[c]? = some m' := by
  rw [List.getElem?_set]
  simp [(List.getElem?_eq_some_iff.1 hc).1]

def PL.drop (L : PL) (c : Nat) (m : PMade) : PL := ⟨L.depth, L.all.set c { m with there := false }⟩
theorem Led.drop {M : PM} {L : PL} (h : Led M L) {c : Nat} {m : PMade} (hc : L.all[c]? = some m) (ht : m.there = true) : M.dropErr [m.number] = 0 ∧ Led (M.drop [m.number]) (L.drop c m) := by
  obtain ⟨n1, n2, n3, n4⟩ := h.num c m hc
  have hlt := (List.getElem?_eq_some_iff.1 hc).1
  have hcell := h.cells c m hc
  rw [ht, if_pos rfl] at hcell
  have e : M.dropErr [m.number] = 0 := by
    unfold PM.dropErr
    refine dErr_ok (fun n hn => ?_) ⟨by simp, fun n hn => ?_⟩
    · simp at hn
      subst hn
      rw [h.made, n1]
      omega
    · simp at hn
      subst hn
      rw [n1, hcell]
      rfl
  refine ⟨e, ?_⟩
  unfold PM.drop PL.drop
  rw [if_pos e]
  refine ⟨by simp [h.made], fun i m' hi => ?_, fun i m' hi => ?_, fun k hk => ?_, h.dep, fun d l hd x => ?_⟩
  · rcases set_cases hi with ⟨rfl, rfl⟩ | ⟨_, q⟩
    · exact ⟨n1, n2, n3, n4⟩
    · exact h.num i m' q
  · rcases set_cases hi with ⟨rfl, rfl⟩ | ⟨hne, q⟩
    · simp [n1]
    · dsimp only
      rw [if_neg (by rw [n1]; simp; omega)]
      exact h.cells i m' q
  · dsimp only at hk
    split at hk
    · exact absurd rfl hk
    · exact h.dom k hk
  · rw [h.fr d l hd x]
    constructor
    · rintro ⟨i, m', h1, h2, h3, h4⟩
      by_cases hi : i = c
      · subst hi
        rw [hc] at h1
        injection h1 with h1
        subst h1
        exact ⟨i, _, set_old hc, h2, h3, h4⟩
      · exact ⟨i, m', by rw [List.getElem?_set_ne (fun e => hi e.symm)]; exact h1, h2, h3, h4⟩
    · rintro ⟨i, m', h1, h2, h3, h4⟩
      rcases set_cases h1 with ⟨rfl, rfl⟩ | ⟨_, q⟩
      · exact ⟨i, m, hc, h2, h3, h4⟩
      · exact ⟨i, m', q, h2, h3, h4⟩

def PL.put (L : PL) (c : Nat) (m : PMade) (f : Nat) (x : Int × Int) : PL := ⟨L.depth, L.all.set c { m with fields := m.fields.set f x }⟩
theorem Led.put {M : PM} {L : PL} (h : Led M L) {c : Nat} {m : PMade} (hc : L.all[c]? = some m) (ht : m.there = true) (f : Nat) (hf : f < m.fields.length) (x : Int × Int) (hx : rightB M.made x = true) :
    M.storeErr (2, m.number) f x = 0 ∧ Led (M.store (2, m.number) f x) (L.put c m f x) := by
  obtain ⟨n1, n2, n3, n4⟩ := h.num c m hc
  have hlt := (List.getElem?_eq_some_iff.1 hc).1
  have hcell := h.cells c m hc
  rw [ht, if_pos rfl] at hcell
  have hr : rightB M.made (2, m.number) = true := by
    simp only [rightB]
    rw [n1, h.made]
    simp
    omega
  have e : M.storeErr (2, m.number) f x = 0 := by
    unfold PM.storeErr
    rw [if_neg (by rw [hx]; decide)]
    unfold PM.err
    rw [if_neg (by rw [hr]; decide), if_neg (fun q => q rfl)]
    dsimp only
    rw [n1, hcell]
    dsimp only
    rw [if_neg (by omega)]
  refine ⟨e, ?_⟩
  unfold PM.store PL.put
  rw [if_pos e]
  unfold PM.put
  refine ⟨by simp [h.made], fun i m' hi => ?_, fun i m' hi => ?_, fun k hk => ?_, h.dep, fun d l hd x => ?_⟩
  · rcases set_cases hi with ⟨rfl, rfl⟩ | ⟨_, q⟩
    · exact ⟨n1, by simpa using n2, by simpa using n3, n4⟩
    · exact h.num i m' q
  · rcases set_cases hi with ⟨rfl, rfl⟩ | ⟨hne, q⟩
    · dsimp only
      rw [if_pos n1.symm, hcell, if_pos ht]
      simp
    · dsimp only
      rw [if_neg (by rw [n1]; omega)]
      exact h.cells i m' q
  · dsimp only at hk
    split at hk
    · rename_i q
      refine h.dom k fun e => hk ?_
      rw [e]
      rfl
    · exact h.dom k hk
  · rw [h.fr d l hd x]
    constructor
    · rintro ⟨i, m', h1, h2, h3, h4⟩
      by_cases hi : i = c
      · subst hi
        rw [hc] at h1
        injection h1 with h1
        subst h1
        exact ⟨i, _, set_old hc, h2, h3, h4⟩
      · exact ⟨i, m', by rw [List.getElem?_set_ne (fun e => hi e.symm)]; exact h1, h2, h3, h4⟩
    · rintro ⟨i, m', h1, h2, h3, h4⟩
      rcases set_cases h1 with ⟨rfl, rfl⟩ | ⟨_, q⟩
      · exact ⟨i, m, hc, h2, h3, h4⟩
      · exact ⟨i, m', q, h2, h3, h4⟩

/-- the numbers of those that must be there -/
def numsTo (L : List PMade) (i : Nat) : List Int := ((L.take i).filter (·.there)).map (·.number)
theorem numsTo_succ {L : List PMade} {i : Nat} {m : PMade} (h : L[i]? = some m) : numsTo L (i + 1) = numsTo L i ++ if m.there = true then [m.number] else [] := by
  unfold numsTo
  rw [List.take_add_one, h]
  simp only [Option.toList_some, List.filter_append, List.map_append]
  congr 1
  by_cases ht : m.there = true <;> simp [ht]
theorem Led.mem_nums {M : PM} {L : PL} (h : Led M L) : ∀ i, i ≤ L.all.length → (numsTo L.all i).Pairwise (· < ·) ∧ ∀ x, x ∈ numsTo L.all i ↔ ∃ (j : Nat) (m : PMade), j < i ∧ L.all[j]? = some m ∧ m.there = true ∧ x = (j : Int) + 1
  | 0, _ => ⟨by simp [numsTo], fun x => by simp [numsTo]⟩
  | i + 1, hi => by
    obtain ⟨h1, h2⟩ := h.mem_nums i (by omega)
    obtain ⟨m, hm⟩ : ∃ m, L.all[i]? = some m := ⟨L.all[i], List.getElem?_eq_getElem _⟩
    have hn := (h.num i m hm).1
    rw [numsTo_succ hm]
    refine ⟨?_, fun x => ?_⟩
    · rw [List.pairwise_append]
      refine ⟨h1, by split <;> simp, fun a ha b hb => ?_⟩
      obtain ⟨j, m', q1, _, _, q4⟩ := (h2 a).1 ha
      split at hb
      · simp at hb
        omega
      · cases hb
    · rw [List.mem_append, h2]
      constructor
      · rintro (⟨j, m', q1, q2, q3, q4⟩ | q)
        · exact ⟨j, m', by omega, q2, q3, q4⟩
        · split at q
          · rename_i ht
            simp at q
            exact ⟨i, m, by omega, hm, ht, by omega⟩
          · cases q
      · rintro ⟨j, m', q1, q2, q3, q4⟩
        by_cases hj : j = i
        · subst hj
          rw [hm] at q2
          injection q2 with q2
          subst q2
          exact .inr (by rw [if_pos q3]; simp; omega)
        · exact .inl ⟨j, m', by omega, q2, q3, q4⟩
theorem Led.live {M : PM} {L : PL} (h : Led M L) {ss : List Int} (hs : LiveIs M ss) : ss = numsTo L.all L.all.length := by
  obtain ⟨h1, h2⟩ := h.mem_nums L.all.length (Nat.le_refl _)
  refine hs.eq ⟨h1, fun k => ?_⟩
  rw [h2]
  constructor
  · rintro ⟨j, m, q1, q2, q3, rfl⟩
    rw [h.cells j m q2, if_pos q3]
    simp
  · intro hk
    have hd := h.dom k hk
    rw [h.made] at hd
    obtain ⟨m, hm⟩ : ∃ m, L.all[(k - 1).toNat]? = some m := ⟨L.all[(k - 1).toNat]'(by omega), List.getElem?_eq_getElem _⟩
    have hc := h.cells _ m hm
    have e : ((k - 1).toNat : Int) + 1 = k := by omega
    rw [e] at hc
    refine ⟨_, m, by omega, hm, ?_, e.symm⟩
    cases ht : m.there
    · rw [ht] at hc
      exact absurd hc hk
    · rfl
theorem numsTo_mono (L : List PMade) {i j : Nat} (h : i ≤ j) : ∃ r, numsTo L j = numsTo L i ++ r := by
  refine ⟨(((L.drop i).take (j - i)).filter (·.there)).map (·.number), ?_⟩
  unfold numsTo
  rw [← List.map_append, ← List.filter_append]
  congr 2
  rw [show j = i + (j - i) by omega, List.take_add, show i + (j - i) - i = j - i by omega]
/-- the place in Live of one that must be there -/
theorem numsTo_at {L : List PMade} {i n : Nat} {m : PMade} (h : L[i]? = some m) (ht : m.there = true) (hn : i < n) : (numsTo L n)[(numsTo L i).length]? = some m.number := by
  obtain ⟨r, hr⟩ := numsTo_mono L (show i + 1 ≤ n by omega)
  rw [hr, numsTo_succ h, if_pos ht]
  simp
/-- what a Load of one of the cells tells -/
theorem Led.gone {M : PM} {L : PL} (h : Led M L) {i : Nat} {m : PMade} (hi : L.all[i]? = some m) (ht : m.there = false) : M.err (2, m.number) 0 = 32 := by
  have n1 := (h.num i m hi).1
  have hlt := (List.getElem?_eq_some_iff.1 hi).1
  have hc := h.cells i m hi
  rw [ht, if_neg (by decide)] at hc
  unfold PM.err
  rw [if_neg (by rw [n1, h.made]; simp [rightB]; omega), if_neg (fun q => q rfl)]
  dsimp only
  rw [n1, hc]
theorem Led.field {M : PM} {L : PL} (h : Led M L) {i : Nat} {m : PMade} (hi : L.all[i]? = some m) (ht : m.there = true) {f : Nat} {x : Int × Int} (hf : m.fields[f]? = some x) : M.err (2, m.number) f = 0 ∧ M.load (2, m.number) f = x := by
  have n1 := (h.num i m hi).1
  have hlt := (List.getElem?_eq_some_iff.1 hi).1
  have hc := h.cells i m hi
  rw [ht, if_pos rfl] at hc
  have hfl := (List.getElem?_eq_some_iff.1 hf).1
  have e : M.err (2, m.number) f = 0 := by
    unfold PM.err
    rw [if_neg (by rw [n1, h.made]; simp [rightB]; omega), if_neg (fun q => q rfl)]
    dsimp only
    rw [n1, hc]
    dsimp only
    rw [if_neg (by omega)]
  refine ⟨e, ?_⟩
  unfold PM.load
  rw [if_pos e]
  dsimp only
  rw [n1, hc]
  simp [hf]
theorem Led.beyond {M : PM} {L : PL} (h : Led M L) {i : Nat} {m : PMade} (hi : L.all[i]? = some m) (ht : m.there = true) : M.err (2, m.number) m.fields.length = 33 := by
  have n1 := (h.num i m hi).1
  have hlt := (List.getElem?_eq_some_iff.1 hi).1
  have hc := h.cells i m hi
  rw [ht, if_pos rfl] at hc
  unfold PM.err
  rw [if_neg (by rw [n1, h.made]; simp [rightB]; omega), if_neg (fun q => q rfl)]
  dsimp only
  rw [n1, hc]
  dsimp only
  rw [if_pos (by omega)]

/-- the places in the ledger of those that must be there -/
def placesTo (L : List PMade) (i : Nat) : List Int := ((List.range i).filter fun (j : Nat) => decide ((L[j]?).map PMade.there = some true)).map fun (j : Nat) => (j : Int)
theorem placesTo_succ {L : List PMade} {i : Nat} {m : PMade} (h : L[i]? = some m) : placesTo L (i + 1) = placesTo L i ++ if m.there = true then [(i : Int)] else [] := by
  unfold placesTo
  rw [List.range_succ, List.filter_append, List.map_append]
  congr 1
  by_cases ht : m.there = true <;> simp [h, ht]
theorem placesTo_at {L : List PMade} {i k : Nat} {x : Int} (h : (placesTo L i)[k]? = some x) : ∃ (c : Nat) (m : PMade), x = c ∧ c < i ∧ L[c]? = some m ∧ m.there = true := by
  have hm := List.mem_of_getElem? h
  unfold placesTo at hm
  simp only [List.mem_map, List.mem_filter, List.mem_range, decide_eq_true_eq] at hm
  obtain ⟨c, ⟨h1, h2⟩, rfl⟩ := hm
  rw [Option.map_eq_some_iff] at h2
  obtain ⟨m, h3, h4⟩ := h2
  exact ⟨c, m, rfl, h1, h3, h4⟩
theorem placesTo_len (L : List PMade) (i : Nat) : (placesTo L i).length ≤ i := by
  unfold placesTo
  rw [List.length_map]
  exact Nat.le_trans (List.length_filter_le _ _) (by simp)
end Go.Proofs.Ytabfmoedbnpihaa
