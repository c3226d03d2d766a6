/- A step towards the laws on the cells of a run: the plain law of CellsApart: what a memory tells hangs on its own calls alone. No conditions of its own beyond those that its theorems name. -/
import Derived.Test.YtabfmoedbnpihaaKEqLists
namespace Go.Proofs.Ytabfmoedbnpihaa
open Go.RowKit Go.MapKept

/-- these calls, done in their order to M, tell these lists, and M is M' then -/
def Tells : List POp → PM → List (List Int) → PM → Prop
  | [], M, outs, M' => outs = [] ∧ M' = M
  | o :: os, M, outs, M' => ∃ (ss : List Int) (rest : List (List Int)), (o.kind = 9 → LiveIs M ss) ∧ (o.kind ≠ 9 → ss = []) ∧ outs = M.told o ss :: rest ∧ Tells os (M.oneM o) rest M'
theorem Tells.eq : ∀ (os : List POp) {M M1 M2 : PM} {a b : List (List Int)}, Tells os M a M1 → Tells os M b M2 → a = b ∧ M1 = M2
  | [], _, _, _, _, _, h, k => ⟨by rw [h.1, k.1], by rw [h.2, k.2]⟩
  | o :: os, M, M1, M2, a, b, h, k => by
    obtain ⟨s, r, h1, h2, rfl, h3⟩ := h
    obtain ⟨t, q, k1, k2, rfl, k3⟩ := k
    have e : s = t := by
      by_cases h9 : o.kind = 9
      · exact (h1 h9).eq (k1 h9)
      · rw [h2 h9, k2 h9]
    obtain ⟨e1, e2⟩ := Tells.eq os h3 k3
    exact ⟨by rw [e, e1], e2⟩
theorem Tells.step : ∀ (os : List POp) {M M1 : PM} {a : List (List Int)} (o : POp) (ss : List Int), Tells os M a M1 → (o.kind = 9 → LiveIs M1 ss) → (o.kind ≠ 9 → ss = []) → Tells (os ++ [o]) M (a ++ [M1.told o ss]) (M1.oneM o)
  | [], M, M1, a, o, ss, h, h1, h2 => by
    obtain ⟨rfl, rfl⟩ := h
    exact ⟨ss, [], h1, h2, rfl, rfl, rfl⟩
  | p :: os, M, M1, a, o, ss, h, h1, h2 => by
    obtain ⟨s, r, k1, k2, rfl, k3⟩ := h
    exact ⟨s, r ++ [M1.told o ss], k1, k2, rfl, Tells.step os o ss k3 h1 h2⟩
theorem Tells.len : ∀ (os : List POp) {M M1 : PM} {a : List (List Int)}, Tells os M a M1 → a.length = os.length
  | [], _, _, _, h => by rw [h.1]; rfl
  | o :: os, _, _, _, h => by
    obtain ⟨s, r, _, _, rfl, k⟩ := h
    simp [Tells.len os k]

/-- two lists in turns, up to the i-th of each -/
def turns {α : Type} (a b : List α) : Nat → List α
  | 0 => []
  | i + 1 => turns a b i ++ (a[i]?).toList ++ (b[i]?).toList
end Go.Proofs.Ytabfmoedbnpihaa
