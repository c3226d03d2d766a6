/- A step towards the laws on histories: a row of one's own whose element n turns. No conditions of its own beyond those that its theorems name. -/
import Derived.Test.YtfahoomkpammiaaHPure
import Derived.Test.YtfahoomkpammiaaKUtil
namespace Go.Proofs.Ytfahoomkpammiaa
open Go.RowKit Go.MapKept Go.Proofs.YtfahoomkpammiaaW.PrintWords Go.Proofs.YtfahoomkpammiaaW.PrintLast Go.Proofs.YtfahoomkpammiaaW.PrintMore Go.Proofs.Ytfahoomkpammiaa.PHistOrders

theorem IMap.run_len {P : Program} {w : World} {b : Nat} {f : Int → Option Value} {t K E : TypeId} (ht : P.underlying t = some (.map K E)) (h : IMap w b f) (ty : TypeId) :
    ∃ k : Nat, (Builtin.len_ #[t] ty #[.map (some b)]).run P w = .ok (.int .i64 (k : Nat)) w ∧ (k = 0 ↔ ∀ j, f j = none) := by
  obtain ⟨es, clock, hb, hs, hk, hf⟩ := h
  refine ⟨es.size, by simp [Builtin.len_, run_underlying ht, Go.MapKept.run_getObj_map hb, goInt, Result.andThen], fun h0 j => ?_, fun hn => ?_⟩
  · rw [← hf j]
    exact look_none fun x hx => by
      have : es.toList = [] := List.eq_nil_of_length_eq_zero (by simpa using h0)
      rw [this] at hx
      cases hx
  · rcases Nat.eq_zero_or_pos es.size with q | q
    · exact q
    · have hm : es[0] ∈ es.toList := by simp
      obtain ⟨k, he⟩ := isKey_form (hk _ hm)
      have := look_some hs.2.2 hm he
      rw [hf k, hn k] at this
      cases this
theorem own_setS {w : World} {base : Nat} {e : TypeId} {size n g c : Nat} {xs : List Value} (h : w.ownsRow base e size (.slice (some ⟨g, 0, none⟩) n c) n xs) (i : Nat) (u : Value) :
    (w.setCell ⟨g, i, none⟩ u).ownsRow base e size (.slice (some ⟨g, 0, none⟩) n c) n (xs.set i u) := by
  refine ⟨by simpa using h.1, ?_⟩
  rcases h.2 with ⟨h0, _⟩ | ⟨g', cap, cur, hv, hb, hg, hn, hm, hs, ht⟩
  · cases h0
  · injection hv with h1 _ h3
    injection h1 with h1
    injection h1 with h1 _ _
    subst h1; subst h3
    refine .inr ⟨g, c, _, rfl, hb, blk_set hg i u, hn, hm, by simpa using hs, ?_⟩
    rw [← ht]
    simp only [Array.toList_setIfInBounds, List.take_set]
theorem reps_set {α : Type} {R : α → List Value → Prop} {size : Nat} {ps : List α} {cs row : List Value} {p : α} (h : Reps R size ps cs) (n : Nat) (hn : n < ps.length) (hp : R p row) (hl : row.length = size) (cs' : List Value)
    (hlen : cs'.length = cs.length) (hin : ∀ j, j < size → cs'[n * size + j]? = row[j]?) (hout : ∀ k, k < n * size ∨ n * size + size ≤ k → cs'[k]? = cs[k]?) : Reps R size (ps.set n p) cs' := by
  refine ⟨by rw [hlen, h.1, List.length_set], fun j q hq => ?_⟩
  by_cases hj : j = n
  · subst hj
    have hq' : p = q := by
      rw [List.getElem?_set_self hn] at hq
      exact Option.some.inj hq
    subst hq'
    have : (cs'.drop (j * size)).take size = row := by
      refine List.ext_getElem? fun k => ?_
      rw [List.getElem?_take]
      split
      · rename_i hk
        rw [List.getElem?_drop]
        exact hin k hk
      · rename_i hk
        rw [List.getElem?_eq_none (by omega)]
    rw [this]
    exact hp
  · rw [List.getElem?_set_ne (fun e => hj e.symm)] at hq
    have : (cs'.drop (j * size)).take size = (cs.drop (j * size)).take size := by
      refine List.ext_getElem? fun k => ?_
      rw [List.getElem?_take, List.getElem?_take]
      split
      · rename_i hk
        rw [List.getElem?_drop, List.getElem?_drop]
        refine hout _ ?_
        rcases Nat.lt_or_ge j n with q | q
        · have := Nat.mul_le_mul_right size (show j + 1 ≤ n from q)
          rw [Nat.add_mul] at this
          omega
        · have := Nat.mul_le_mul_right size (show n + 1 ≤ j by omega)
          rw [Nat.add_mul] at this
          omega
      · rfl
    rw [this]
    exact h.2 j q hq
theorem call_set {w w1 : World} {base g c n : Nat} {cs : List S70} (h : OwnRow (k70.K w) 65 9 w1 base (.slice (some ⟨g, 0, none⟩) cs.length c) cs) (hn : n < cs.length) (i : Int) (r : S43) (A7 : Option Addr) (c7 : Nat) (A8 : Option Addr) (c8 : Nat)
    (l7 : r.f2.length ≤ c7) (g7 : (Kd.int .i64).C w A7 r.f2.length r.f2) (l8 : r.f3.length ≤ c8) (g8 : Kd.string.C w A8 r.f3.length r.f3) :
    OwnRow (k70.K w) 65 9 (((((w1.setCell ⟨g, n * 9 + 1, none⟩ (.int .i64 i)).setCell ⟨g, n * 9 + 5, none⟩ (.bool r.f0)).setCell ⟨g, n * 9 + 5 + 1, none⟩ (.string r.f1)).setCell ⟨g, n * 9 + 5 + 2, none⟩ (.slice A7 r.f2.length c7)).setCell ⟨g, n * 9 + 5 + 3, none⟩ (.slice A8 r.f3.length c8))
      base (.slice (some ⟨g, 0, none⟩) cs.length c) (cs.set n ⟨(rd_T70 cs n).f0, i, (rd_T70 cs n).f2, r⟩) := by
  obtain ⟨inner, ho, hr⟩ := h
  refine ⟨_, by rw [List.length_set]; exact own_setS (own_setS (own_setS (own_setS (own_setS ho _ _) _ _) _ _) _ _) _ _, reps_set hr n hn (k70_mk w ⟨(rd_T70 cs n).f0, i, (rd_T70 cs n).f2, r⟩ l7 g7 l8 g8) rfl _ (by simp) ?_ ?_⟩
  · have hl : n * 9 + 9 ≤ inner.length := by rw [hr.1]; omega
    have hd : cs[n]? = some (rd_T70 cs n) := by unfold rd_T70; rw [Int.toNat_natCast, List.getD_eq_getElem?_getD, List.getElem?_eq_getElem hn]; rfl
    obtain ⟨B7, b7, B8, b8, hrow, _⟩ := k70_open (hr.2 n _ hd)
    have hin : ∀ j, j < 9 → inner[n * 9 + j]? = ((inner.drop (n * 9)).take 9)[j]? := fun j hj => by rw [List.getElem?_take, if_pos hj, List.getElem?_drop]
    rw [hrow] at hin
    intro j hj
    rcases j with _ | _ | _ | _ | _ | _ | _ | _ | _ | j
    · rw [List.getElem?_set_ne (by omega), List.getElem?_set_ne (by omega), List.getElem?_set_ne (by omega), List.getElem?_set_ne (by omega), List.getElem?_set_ne (by omega)]; exact hin 0 (by omega)
    · simp [List.getElem?_set]; omega
    · rw [List.getElem?_set_ne (by omega), List.getElem?_set_ne (by omega), List.getElem?_set_ne (by omega), List.getElem?_set_ne (by omega), List.getElem?_set_ne (by omega)]; exact hin 2 (by omega)
    · rw [List.getElem?_set_ne (by omega), List.getElem?_set_ne (by omega), List.getElem?_set_ne (by omega), List.getElem?_set_ne (by omega), List.getElem?_set_ne (by omega)]; exact hin 3 (by omega)
    · rw [List.getElem?_set_ne (by omega), List.getElem?_set_ne (by omega), List.getElem?_set_ne (by omega), List.getElem?_set_ne (by omega), List.getElem?_set_ne (by omega)]; exact hin 4 (by omega)
    · simp [List.getElem?_set]; omega
    · simp [List.getElem?_set]; omega
    · simp [List.getElem?_set]; omega
    · simp [List.getElem?_set]; omega
    · omega
  · intro k hk
    simp only [List.getElem?_set]
    rw [if_neg (by omega), if_neg (by omega), if_neg (by omega), if_neg (by omega), if_neg (by omega)]
/-- behind the two stores of read -/
def stored (w1 : World) (g n : Nat) (i : Int) (r : S43) (A7 : Option Addr) (c7 : Nat) (A8 : Option Addr) (c8 : Nat) : World :=
  (((((w1.setCell ⟨g, n * 9 + 1, none⟩ (.int .i64 i)).setCell ⟨g, n * 9 + 5, none⟩ (.bool r.f0)).setCell ⟨g, n * 9 + 5 + 1, none⟩ (.string r.f1)).setCell ⟨g, n * 9 + 5 + 2, none⟩ (.slice A7 r.f2.length c7)).setCell ⟨g, n * 9 + 5 + 3, none⟩ (.slice A8 r.f3.length c8)).drew
theorem stored_only (w1 : World) (g n : Nat) (i : Int) (r : S43) (A7 : Option Addr) (c7 : Nat) (A8 : Option Addr) (c8 : Nat) : Only w1 (stored w1 g n i r A7 c7 A8 c8) (fun b => b = g) := by
  have st : ∀ (W : World) (k : Nat) (u : Value), Only w1 W (fun b => b = g) → Only w1 (W.setCell ⟨g, k, none⟩ u) (fun b => b = g) := fun W k u h => Only.setCell (S := fun b => b = g) h (p := ⟨g, k, none⟩) (.inl rfl) u
  exact Only.drew (st _ _ _ (st _ _ _ (st _ _ _ (st _ _ _ (st _ _ _ (Only.refl _ _))))))
theorem stored_row {w w1 : World} {base g c n : Nat} {cs : List S70} (h : OwnRow (k70.K w) 65 9 w1 base (.slice (some ⟨g, 0, none⟩) cs.length c) cs) (hn : n < cs.length) (i : Int) (r : S43) (A7 : Option Addr) (c7 : Nat) (A8 : Option Addr) (c8 : Nat)
    (l7 : r.f2.length ≤ c7) (g7 : (Kd.int .i64).C w A7 r.f2.length r.f2) (l8 : r.f3.length ≤ c8) (g8 : Kd.string.C w A8 r.f3.length r.f3) :
    OwnRow (k70.K w) 65 9 (stored w1 g n i r A7 c7 A8 c8) base (.slice (some ⟨g, 0, none⟩) cs.length c) (cs.set n ⟨(rd_T70 cs n).f0, i, (rd_T70 cs n).f2, r⟩) :=
  (call_set h hn i r A7 c7 A8 c8 l7 g7 l8 g8).below (below_drew1 (Below.refl _ _))
end Go.Proofs.Ytfahoomkpammiaa
