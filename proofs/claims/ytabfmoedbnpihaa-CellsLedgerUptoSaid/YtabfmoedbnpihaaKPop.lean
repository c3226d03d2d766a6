/- A step towards the laws on the cells of a run: the contract of Pop. No conditions of its own beyond those that its theorems name. -/
import Derived.Test.YtabfmoedbnpihaaKMake2
import Derived.Maps.OwnOps
import Derived.LoopTactic
namespace Go.Proofs.Ytabfmoedbnpihaa
open Go.RowKit Go.MapKept

section
variable {P : Program} (w : World)
theorem wpl_delete {ops : Array Oper} {rest : List Oper} {o : Oper} {a : Act} {Q : Exit → Act → World → Prop} (hgd : o.guard = none) (m x : Operand) (t t' : TypeId)
    (ho : o.op = .call { callee := .builtin .delete, args := #[m, x], argTypes := #[t, t'] }) {K E : TypeId} (ht : P.underlying t = some (.map K E)) (hK : P.underlying K = some (.int .i64))
    (b : Nat) (f : Int → Option Value) (k : Int) (hm : a.eval m = .map (some b)) (hx : a.eval x = .int .i64 k) (him : IMap w b f)
    (h : ∀ w1, IMap w1 b (fun j => if j = k then none else f j) → Turned w w1 b → w1.drawn = w.drawn → wpList P ops Q rest (a.put o.dst (.tuple #[])) w1) : wpList P ops Q (o :: rest) a w :=
  wpList_plain hgd fun _ hKK => by
    obtain ⟨w1, hrun, h1, h2, h3⟩ := him.run_delete ht hK o.type t' k
    unfold Oper.wp execOp
    simp only [ho, resolve, invoke, builtin, Sem.run_bind, Sem.run_pure, Result.andThen_ok, List.map_toArray, List.map_cons, List.map_nil, hm, hx, hrun]
    exact hKK _ _ (h w1 h1 h2 h3)
end

set_option maxRecDepth 100000 in
set_option maxHeartbeats 1000000 in
theorem pop_walk (w : World) (p bm og L C : Nat) (gv mv v : Value) (l : List Int) (f : Int → Option Value)
    (h : w.heap[p]? = some (.cells #[gv, .map (some bm), mv, .slice (some ⟨og, 0, none⟩) (L + 1) C] 66 (0, 0)))
    (hm : IMap w bm f) (hov : w.cell? ⟨og, L, none⟩ = some v) (ho : w.ownsRow 0 3 1 v l.length (l.map (Value.int .i64))) (hvl : L < Lim) (hll : l.length < Lim) (hbm : bm ≠ p) (hC : L + 1 ≤ C)
    (hvo : ∀ g, v.ownBlock = some g → g ≠ bm) :
    Calls Try.prog 19 #[.pointer (some ⟨p, 0, none⟩)] w fun e w' => e = .returned (.int .i64 0) ∧
      ∃ w1, IMap w1 bm (fun j => if j ∈ l then none else f j) ∧ Only w w1 (fun b => b = bm) ∧ w' = w1.setCell ⟨p, 3, none⟩ (.slice (some ⟨og, 0, none⟩) L C) := by
  obtain ⟨A, C1, rfl⟩ := own_slice ho
  have c3 : w.cell? ⟨p, 3, none⟩ = some (.slice (some ⟨og, 0, none⟩) (L + 1) C) := blk_cell h rfl
  have hp : p < w.heap.size := blk_lt h
  unfold Lim at hvl hll
  have hvl' : L ≤ 9223372036854775805 := by omega
  have hll' : l.length ≤ 9223372036854775805 := by omega
  have hL0 : (0 : Int) ≤ (L : Int) := Int.natCast_nonneg _
  have H := Lib.hid h
  have HO := Lib.hid ho
  have HM := Lib.hid hm
  clear hvl hll h ho hm
  go_enter Try.func19, Try.ntmps19
  go_wp2_with fail
  go_loopw [24] (fun s24 wr => ∃ i : Nat, i ≤ l.length ∧ s24 = .int .i64 i ∧ IMap wr bm (fun j => if j ∈ l.take i then none else f j) ∧ Only w wr fun b => b = bm) (fun s24 _ => l.length - (intOf s24).toNat)
  case atStart => exact ⟨0, Nat.zero_le _, rfl, by simpa using HM.out, Only.refl _ _⟩
  case round =>
    obtain ⟨i, hi, rfl, him, hon⟩ := hrel
    have hself := hon.blk H.out (fun e => hbm e.symm)
    have c1 : wr.cell? ⟨p, 1, none⟩ = some (.map (some bm)) := blk_cell hself rfl
    have c3' : wr.cell? ⟨p, 3, none⟩ = some (.slice (some ⟨og, 0, none⟩) (L + 1) C) := blk_cell hself rfl
    have f3' : wr.frozen? ⟨p, 3, none⟩ = false := blk_frozen hself 3
    have HON := Lib.hid hon
    have HIM := Lib.hid him
    clear hself hon him
    by_cases hlt : i < l.length
    · obtain ⟨x, hx⟩ : ∃ x, l[i]? = some x := ⟨l[i], List.getElem?_eq_getElem hlt⟩
      obtain ⟨gi, ci, e, hcx, _, _⟩ := own_cell HO.out (i := i) (x := .int .i64 x) (by simp [hx])
      injection e with e1 e2 e3
      subst e1; subst e3
      have hcx' : wr.cell? ⟨gi, i, none⟩ = some (.int .i64 x) := (HON.out.cell (p := ⟨gi, i, none⟩) (own_lt HO.out rfl) (hvo gi rfl)).trans hcx
      have HX := Lib.hid hx
      clear hx hcx
      go_wp2_with (at_delete; go_must (refine wpl_delete _ rfl _ _ _ _ rfl Try.underlying64 Try.underlying3 bm _ x rfl rfl HIM.out ?_); intro w1 him1 hturn hdr; have HT := Lib.hid hturn; have HI1 := Lib.hid him1; clear hturn him1 hdr)
      go_roundw
      case rel =>
        refine ⟨i + 1, by omega, by go_num, ?_, HON.out.trans' (HT.out.only rfl)⟩
        have e : (fun j => if j = x then none else if j ∈ l.take i then none else f j) = fun j => if j ∈ l.take (i + 1) then none else f j := by
          funext j
          rw [List.take_add_one, HX.out]
          simp only [Option.toList_some, List.mem_append, List.mem_singleton]
          by_cases h1 : j = x <;> by_cases h2 : j ∈ l.take i <;> simp [h1, h2]
        rw [← e]
        exact HI1.out
      case measure => simp [intOf]; omega
    · obtain rfl : i = l.length := by omega
      go_wp2
      go_ret
      refine ⟨rfl, wr, ?_, HON.out, rfl⟩
      have := HIM.out
      rwa [List.take_length] at this
def PM.popErr (M : PM) : Int := if M.frames.length = 0 then 30 else 0
def PM.pop (M : PM) : PM := { M with cells := fun k => if k ∈ M.frames.getLast?.getD [] then none else M.cells k, frames := M.frames.dropLast }

set_option maxRecDepth 100000 in
set_option maxHeartbeats 400000 in
theorem pop_none (w : World) (p : Nat) (gv mv cv : Value) (A : Option Addr) (C : Nat) (h : w.heap[p]? = some (.cells #[gv, mv, cv, .slice A 0 C] 66 (0, 0))) :
    Calls Try.prog 19 #[.pointer (some ⟨p, 0, none⟩)] w fun e w' => e = .returned (.int .i64 30) ∧ w = w' := by
  have c3 : w.cell? ⟨p, 3, none⟩ = some (.slice A 0 C) := blk_cell h rfl
  go_enter Try.func19, Try.ntmps19
  go_wp2
  go_ret
  exact ⟨rfl, rfl⟩

theorem own_cap {w : World} {base : Nat} {e : TypeId} {size n C : Nat} {a : Addr} {xs : List Value} (h : w.ownsRow base e size (.slice (some a) n C) n xs) : n ≤ C := by
  rcases h.2 with ⟨q, _⟩ | ⟨g, cap, cur, q, _, _, hn, _⟩
  · cases q
  · injection q with _ _ q; omega

theorem pop_any {w : World} {p : Nat} {lab : Lab} {M : PM} (h : MemAt w p lab M) (hf : M.frames.length < Lim) (hfl : ∀ l ∈ M.frames, l.length < Lim) :
    Calls Try.prog 19 #[.pointer (some ⟨p, 0, none⟩)] w fun e w' => e = .returned (.int .i64 M.popErr) ∧ MemAt w' p lab M.pop ∧ Only w w' fun b => lab b ≠ none := by
  obtain ⟨gb, bm, fv, vs, f, h⟩ := h
  by_cases hz : M.frames.length = 0
  · have e1 : M.popErr = 30 := by unfold PM.popErr; rw [if_pos hz]
    have e2 : M.frames = [] := List.eq_nil_of_length_eq_zero hz
    have e3 : M.pop = M := by unfold PM.pop; cases M; simp_all
    rw [e1, e3]
    obtain ⟨A, C, e⟩ := own_slice h.outer
    rw [h.len, hz] at e
    have hs := h.self
    rw [e] at hs
    refine (pop_none w p _ _ _ A C hs).mono ?_
    rintro e w' ⟨rfl, rfl⟩
    exact ⟨rfl, ⟨gb, bm, fv, vs, f, h⟩, Only.refl _ _⟩
  have e1 : M.popErr = 0 := by unfold PM.popErr; rw [if_neg hz]
  rw [e1]
  obtain ⟨L, hL⟩ : ∃ L, M.frames.length = L + 1 := ⟨M.frames.length - 1, by omega⟩
  obtain ⟨l, hl⟩ : ∃ l, M.frames[L]? = some l := ⟨M.frames[L], List.getElem?_eq_getElem (by omega)⟩
  have hlast : M.frames.getLast?.getD [] = l := by rw [List.getLast?_eq_getElem?, hL, Nat.add_sub_cancel, hl]; rfl
  obtain ⟨v, hv, hvo, hvl⟩ := h.inner L l hl
  have hvs : vs.length = L + 1 := by rw [h.len, hL]
  obtain ⟨og, C, e, hcell, hfro, _⟩ := own_cell h.outer hv
  rw [hvs] at e
  subst e
  have hog := h.louter og rfl
  have houter := h.outer
  rw [hvs] at houter
  refine (pop_walk w p bm og L C _ _ v l f h.self h.map hcell hvo (by omega) (hfl l (List.mem_of_getElem? hl)) (lab_ne h.lmap h.lself (by simp)) (own_cap houter) fun g hg => lab_ne (hvl g hg) h.lmap (by simp)).mono ?_
  rintro e w' ⟨rfl, w1, him, hon, rfl⟩
  have ho' : Only w (w1.setCell ⟨p, 3, none⟩ (.slice (some ⟨og, 0, none⟩) L C)) fun b => b = bm ∨ b = p := (hon.mono fun _ _ q => .inl q).setCell (.inl (.inr rfl)) _
  have nm : ∀ {b : Nat} {r : Nat × Int}, lab b = some r → r ≠ (0, 0) → r ≠ (1, 0) → ¬ (b = bm ∨ b = p) := by
    rintro b r hb h1 h2 (rfl | rfl)
    · rw [h.lmap] at hb
      injection hb with hb
      exact h2 hb.symm
    · rw [h.lself] at hb
      injection hb with hb
      exact h1 hb.symm
  have hpb := lab_ne h.lself h.lmap (by simp)
  have hs := blk_set (hon.blk h.self hpb) 3 (.slice (some ⟨og, 0, none⟩) L C)
  refine ⟨rfl, ⟨gb, bm, .slice (some ⟨og, 0, none⟩) L C, vs.take L, fun j => if j ∈ l then none else f j, ?_⟩, ho'.mono fun b _ q => ?_⟩
  · constructor
    · exact hs
    · exact h.lself
    · exact ho'.blk h.glob (nm h.lglob (by simp) (by simp))
    · exact h.lglob
    · exact him.of_block (Below.heap_setCell _ _ _ _ (fun e => hpb e.symm))
    · exact h.lmap
    · intro k
      dsimp only [PM.pop]
      rw [hlast]
      by_cases hk : k ∈ l
      · rw [if_pos hk, if_pos hk]
        trivial
      · rw [if_neg hk, if_neg hk]
        exact (h.cells k).only ho' fun c hc => nm hc (by simp) (by simp)
    · have := own_pop (ho'.row houter fun g hg => nm (h.louter g hg) (by simp) (by simp)) (Nat.le_succ L)
      simpa [hvs] using this
    · intro g hg
      exact h.louter g hg
    · simp [PM.pop, hvs, hL]
    · intro i l' hi
      have hi' : M.frames[i]? = some l' ∧ i < L := by
        simp only [PM.pop, List.getElem?_dropLast] at hi
        split at hi
        · exact ⟨hi, by omega⟩
        · cases hi
      obtain ⟨v', h1, h2, h3⟩ := h.inner i l' hi'.1
      exact ⟨v', by rw [List.getElem?_take_of_lt hi'.2]; exact h1, ho'.row h2 fun g hg => nm (h3 g hg) (by simp) (by simp), h3⟩
    · exact fun b hb => Nat.lt_of_lt_of_le (h.old b hb) ho'.size
  · rcases q with rfl | rfl
    · simp [h.lmap]
    · simp [h.lself]
end Go.Proofs.Ytabfmoedbnpihaa
