/- A step towards the laws on the cells of a run: the contract of Make. No conditions of its own beyond those that its theorems name. -/
import Derived.Test.YtabfmoedbnpihaaKMake
namespace Go.Proofs.Ytabfmoedbnpihaa
open Go.RowKit Go.MapKept

def PM.mkErr (M : PM) (n : Int) : Int := if n < 1 ∨ 8 < n then 1 else if M.frames.length = 0 then 30 else 0
def PM.mk' (M : PM) (n : Nat) (heap : Bool) : PM :=
  { M with made := M.made + 1, cells := fun k => if k = (M.made : Int) + 1 then some (List.replicate n (0, 0)) else M.cells k,
           frames := if heap = true then M.frames else M.frames.modify (M.frames.length - 1) fun l => l ++ [(M.made : Int) + 1] }
def PM.make (M : PM) (n : Int) (heap : Bool) : PM := if M.mkErr n = 0 then M.mk' n.toNat heap else M
def PM.mkN (M : PM) (n : Int) : Int := if M.mkErr n = 0 then (M.made : Int) + 1 else 0

set_option maxRecDepth 100000 in
set_option maxHeartbeats 400000 in
theorem make_arg (w : World) (p : Nat) (n : Int) (heap : Bool) (hn : n < 1 ∨ 8 < n) :
    Calls Try.prog 13 #[.pointer (some ⟨p, 0, none⟩), .int .i64 n, .bool heap] w fun e w' => e = .returned (.tuple #[.int .i64 0, .int .i64 1]) ∧ w = w' := by
  rcases hn with hn | hn
  · have d0 : decide (n < 1) = true := by simp; omega
    go_enter Try.func13, Try.ntmps13
    go_wp2
    go_ret2
    exact ⟨rfl, rfl⟩
  · have d0 : decide (n < 1) = false := by simp; omega
    have d1 : decide (n > 8) = true := by simp; omega
    go_enter Try.func13, Try.ntmps13
    go_wp2
    go_ret2
    exact ⟨rfl, rfl⟩
set_option maxRecDepth 100000 in
set_option maxHeartbeats 400000 in
theorem make_none (w : World) (p : Nat) (n : Int) (heap : Bool) (gv mv cv : Value) (A : Option Addr) (C : Nat) (h : w.heap[p]? = some (.cells #[gv, mv, cv, .slice A 0 C] 66 (0, 0))) (hn1 : 1 ≤ n) (hn8 : n ≤ 8) :
    Calls Try.prog 13 #[.pointer (some ⟨p, 0, none⟩), .int .i64 n, .bool heap] w fun e w' => e = .returned (.tuple #[.int .i64 0, .int .i64 30]) ∧ w = w' := by
  have d0 : decide (n < 1) = false := by simp; omega
  have d1 : decide (n > 8) = false := by simp; omega
  have c3 : w.cell? ⟨p, 3, none⟩ = some (.slice A 0 C) := blk_cell h rfl
  go_enter Try.func13, Try.ntmps13
  go_wp2
  go_ret2
  exact ⟨rfl, rfl⟩
theorem own_len {w : World} {base : Nat} {e : TypeId} {size n : Nat} {v : Value} {xs : List Value} (h : w.ownsRow base e size v n xs) : ∃ A C, v = .slice A n C := own_slice h
theorem MemIs.mkCell {w w2 : World} {p : Nat} {lab : Lab} {M : PM} {gb bm : Nat} {fv : Value} {vs : List Value} {f : Int → Option Value} {n : Nat} (h : MemIs w p lab M gb bm fv vs f) (hn8 : n ≤ 8)
    (K : MkCell w w2 p bm (.slice (some ⟨gb, 0, none⟩) M.globals.length M.globals.length) fv M.made n f) :
    MemIs w2 p (relab lab (some w.heap.size) (5, (M.made : Int) + 1)) (M.mk' n true) gb bm fv vs (fun j => if j = (M.made : Int) + 1 then some (.agg #[.slice (some ⟨w.heap.size, 0, none⟩) n n]) else f j) := by
  have hl : ∀ b, lab b ≠ none → relab lab (some w.heap.size) (5, (M.made : Int) + 1) b = lab b := by
    intro b hb
    unfold relab
    rw [if_neg]
    intro e
    injection e with e
    have := h.old b hb
    omega
  have hk : ∀ {b : Nat} {r : Nat × Int}, lab b = some r → relab lab (some w.heap.size) (5, (M.made : Int) + 1) b = some r := fun hb => by rw [hl _ (by simp [hb]), hb]
  have nm : ∀ {b : Nat} {r : Nat × Int}, lab b = some r → r ≠ (0, 0) → r ≠ (1, 0) → ¬ (b = p ∨ b = bm) := by
    rintro b r hb h1 h2 (rfl | rfl)
    · rw [h.lself] at hb
      injection hb with hb
      exact h1 hb.symm
    · rw [h.lmap] at hb
      injection hb with hb
      exact h2 hb.symm
  constructor
  · have := K.self
    simpa [PM.mk'] using this
  · exact hk h.lself
  · exact K.only.blk h.glob (nm h.lglob (by simp) (by simp))
  · exact hk h.lglob
  · exact K.map
  · exact hk h.lmap
  · intro k
    dsimp only [PM.mk']
    by_cases e : k = (M.made : Int) + 1
    · rw [if_pos e, if_pos e]
      refine ⟨w.heap.size, by simp, K.cell, ?_, by simpa using hn8⟩
      rw [relab_at lab rfl, e]
    · rw [if_neg e, if_neg e]
      exact ((h.cells k).only K.only fun c hc => nm hc (by simp) (by simp)).relab hl
  · exact K.only.row h.outer fun g hg => nm (h.louter g hg) (by simp) (by simp)
  · exact fun g hg => hk (h.louter g hg)
  · exact h.len
  · intro i l hi
    obtain ⟨v, h1, h2, h3⟩ := h.inner i l hi
    exact ⟨v, h1, K.only.row h2 fun g hg => nm (h3 g hg) (by simp) (by simp), fun g hg => hk (h3 g hg)⟩
  · exact relab_lt K.only.size (fun g e => by injection e with e; subst e; exact blk_lt K.cell) h.old

theorem MemIs.inner_app {w w3 : World} {p : Nat} {lab : Lab} {M : PM} {gb bm og L C : Nat} {vs : List Value} {f : Int → Option Value} (h : MemIs w p lab M gb bm (.slice (some ⟨og, 0, none⟩) (L + 1) C) vs f)
    {l : List Int} {v : Value} {x : Int} {A' : Option Addr} {C' : Nat} (hl : M.frames[L]? = some l) (hvl : ∀ g, v.ownBlock = some g → lab g = some (4, (L : Int)))
    (hown : w3.ownsRow 0 3 1 (.slice A' (l.length + 1) C') (l.length + 1) (l.map (Value.int .i64) ++ [.int .i64 x])) (hgrow : w.grownBy w3 v.ownBlock)
    (hat : A'.map Addr.block = v.ownBlock ∨ ∃ g, w.heap.size ≤ g ∧ A'.map Addr.block = some g) :
    MemIs (w3.setCell ⟨og, L, none⟩ (.slice A' (l.length + 1) C')) p (relab lab (A'.map Addr.block) (4, (L : Int))) { M with frames := M.frames.modify L fun l => l ++ [x] } gb bm (.slice (some ⟨og, 0, none⟩) (L + 1) C) (vs.set L (.slice A' (l.length + 1) C')) f := by
  have hlk := relab_keep hat hvl h.old
  have hk : ∀ {b : Nat} {r : Nat × Int}, lab b = some r → relab lab (A'.map Addr.block) (4, (L : Int)) b = some r := fun hb => by rw [hlk _ (by simp [hb]), hb]
  have hog := h.louter og rfl
  have ho : Only w w3 fun b => lab b = some (4, (L : Int)) := Only.of_grown hgrow fun g hg => hvl g hg
  have ho' : Only w (w3.setCell ⟨og, L, none⟩ (.slice A' (l.length + 1) C')) fun b => lab b = some (4, (L : Int)) ∨ lab b = some (3, 0) := (ho.mono fun _ _ q => .inl q).setCell (.inl (.inr hog)) _
  have nm : ∀ {b : Nat} {r : Nat × Int}, lab b = some r → r ≠ (4, (L : Int)) → r ≠ (3, 0) → ¬ (lab b = some (4, (L : Int)) ∨ lab b = some (3, 0)) := by
    intro b r hb h1 h2 q
    rw [hb] at q
    rcases q with q | q <;> injection q with q
    · exact h1 q
    · exact h2 q
  have hAog : A'.map Addr.block ≠ some og := by
    intro q
    rcases hat with e | ⟨g, hg, e⟩
    · have := hvl og (by rw [← e, q])
      rw [hog] at this
      simp at this
    · rw [q] at e
      injection e with e
      have := h.old og (by simp [hog])
      omega
  have hown' := own_far hown (a := ⟨og, L, none⟩) (by rw [own_map]; exact hAog) (.slice A' (l.length + 1) C')
  have hvlen : vs.length = L + 1 := by
    have h1 := h.outer.1
    obtain ⟨A, C2, e⟩ := own_slice h.outer
    injection e with _ e _
    exact e.symm
  have houter : (w3.setCell ⟨og, L, none⟩ (.slice A' (l.length + 1) C')).ownsRow 0 39 1 (.slice (some ⟨og, 0, none⟩) (L + 1) C) (L + 1) (vs.set L (.slice A' (l.length + 1) C')) := by
    have h1 : w3.ownsRow 0 39 1 (.slice (some ⟨og, 0, none⟩) (L + 1) C) (L + 1) vs := by
      have := ho.row h.outer fun g hg => by
        have e := h.louter g hg
        intro q
        rw [e] at q
        simp at q
      rw [hvlen] at this
      exact this
    exact own_set h1 L _
  constructor
  · exact ho'.blk h.self (nm h.lself (by simp) (by simp))
  · exact hk h.lself
  · exact ho'.blk h.glob (nm h.lglob (by simp) (by simp))
  · exact hk h.lglob
  · exact h.map.only ho' (nm h.lmap (by simp) (by simp))
  · exact hk h.lmap
  · intro k
    exact ((h.cells k).only ho' fun c hc => nm hc (by simp) (by simp)).relab hlk
  · rw [List.length_set, hvlen]
    exact houter
  · exact fun g hg => hk (h.louter g hg)
  · simp [h.len]
  · intro i l' hi
    dsimp only at hi
    rw [List.getElem?_modify] at hi
    by_cases e : L = i
    · subst e
      rw [hl] at hi
      simp at hi
      subst hi
      refine ⟨.slice A' (l.length + 1) C', by simp [hvlen], ?_, fun g hg => relab_at lab (by rw [own_map] at hg; exact hg)⟩
      simpa using hown'
    · simp only [e, if_false] at hi
      have hi' : M.frames[i]? = some l' := by simpa using hi
      obtain ⟨v', h1, h2, h3⟩ := h.inner i l' hi'
      refine ⟨v', by rw [List.getElem?_set_ne (by omega)]; exact h1, ho'.row h2 fun g hg => nm (h3 g hg) (by simp; omega) (by simp), fun g hg => hk (h3 g hg)⟩
  · exact relab_lt ho'.size (fun g e => own_lt hown' (by rw [own_map]; exact e)) h.old

theorem make_any {w : World} {p : Nat} {lab : Lab} {M : PM} (h : MemAt w p lab M) (n : Int) (heap : Bool) (hf : M.frames.length < Lim) (hmd : M.made < Lim) (hfl : ∀ l ∈ M.frames, l.length < Lim) :
    Calls Try.prog 13 #[.pointer (some ⟨p, 0, none⟩), .int .i64 n, .bool heap] w fun e w' => e = .returned (.tuple #[.int .i64 (M.mkN n), .int .i64 (M.mkErr n)]) ∧ ∃ lab', MemAt w' p lab' (M.make n heap) ∧ Ext w w' lab lab' := by
  by_cases ha : n < 1 ∨ 8 < n
  · have e1 : M.mkErr n = 1 := by unfold PM.mkErr; rw [if_pos ha]
    have e2 : M.make n heap = M := by unfold PM.make; rw [if_neg (by rw [e1]; decide)]
    have e3 : M.mkN n = 0 := by unfold PM.mkN; rw [if_neg (by rw [e1]; decide)]
    rw [e1, e2, e3]
    refine (make_arg w p n heap ha).mono ?_
    rintro e w' ⟨rfl, rfl⟩
    exact ⟨rfl, lab, h, Ext.refl _ _⟩
  obtain ⟨gb, bm, fv, vs, f, h⟩ := h
  by_cases hz : M.frames.length = 0
  · have e1 : M.mkErr n = 30 := by unfold PM.mkErr; rw [if_neg ha, if_pos hz]
    have e2 : M.make n heap = M := by unfold PM.make; rw [if_neg (by rw [e1]; decide)]
    have e3 : M.mkN n = 0 := by unfold PM.mkN; rw [if_neg (by rw [e1]; decide)]
    rw [e1, e2, e3]
    obtain ⟨A, C, e⟩ := own_slice h.outer
    rw [h.len, hz] at e
    have hs := h.self
    rw [e] at hs
    refine (make_none w p n heap _ _ _ A C hs (by omega) (by omega)).mono ?_
    rintro e w' ⟨rfl, rfl⟩
    exact ⟨rfl, lab, ⟨gb, bm, fv, vs, f, h⟩, Ext.refl _ _⟩
  have e1 : M.mkErr n = 0 := by unfold PM.mkErr; rw [if_neg ha, if_neg hz]
  have e2 : M.make n heap = M.mk' n.toNat heap := by unfold PM.make; rw [if_pos e1]
  have e3 : M.mkN n = (M.made : Int) + 1 := by unfold PM.mkN; rw [if_pos e1]
  rw [e1, e2, e3]
  obtain ⟨n, rfl⟩ := Int.eq_ofNat_of_zero_le (a := n) (by omega)
  rw [Int.toNat_natCast]
  have hbm : bm ≠ p := lab_ne h.lmap h.lself (by simp)
  have hstep : ∀ w2, MkCell w w2 p bm (.slice (some ⟨gb, 0, none⟩) M.globals.length M.globals.length) fv M.made n f → Ext w w2 lab (relab lab (some w.heap.size) (5, (M.made : Int) + 1)) := by
    intro w2 K
    refine ⟨K.only.mono fun b _ q => ?_, fun b hb => ?_, fun b hb => ?_⟩
    · rcases q with rfl | rfl
      · simp [h.lself]
      · simp [h.lmap]
    · unfold relab
      rw [if_neg]
      intro e
      injection e with e
      have := h.old b hb
      omega
    · unfold relab at hb
      split at hb
      · rename_i e
        injection e with e
        exact .inr (by omega)
      · exact .inl hb
  cases heap with
  | true =>
    refine (make_heap_walk w p bm M.made n _ fv vs f h.self h.map h.outer (by omega) (by omega) (by rw [h.len]; omega) (by rw [h.len]; exact hf) hmd hbm).mono ?_
    rintro e w' ⟨rfl, K⟩
    exact ⟨rfl, _, ⟨gb, bm, fv, vs, _, h.mkCell (by omega) K⟩, hstep w' K⟩
  | false =>
    obtain ⟨L, hL⟩ : ∃ L, M.frames.length = L + 1 := ⟨M.frames.length - 1, by omega⟩
    obtain ⟨l, hl⟩ : ∃ l, M.frames[L]? = some l := ⟨M.frames[L], List.getElem?_eq_getElem (by omega)⟩
    obtain ⟨v, hv, hvo, hvl⟩ := h.inner L l hl
    obtain ⟨og, C, e, hcell, hfro, _⟩ := own_cell h.outer hv
    rw [h.len, hL] at e
    subst e
    have hog := h.louter og rfl
    refine (make_frame_walk w p bm og L C l.length M.made n _ v (l.map (Value.int .i64)) f h.self h.map hcell hfro (h.old og (by simp [hog])) hvo (by omega) (by omega) (by omega) hmd (hfl l (List.mem_of_getElem? hl)) hbm (lab_ne hog h.lself (by simp)) (lab_ne hog h.lmap (by simp))
      fun g hg => ⟨lab_ne (hvl g hg) hog (by simp), lab_ne (hvl g hg) h.lself (by simp), lab_ne (hvl g hg) h.lmap (by simp)⟩).mono ?_
    rintro e w' ⟨rfl, w2, A', C', w3, K, hown, hgrow, hat, rfl⟩
    have h2 := h.mkCell (by omega) K
    have hx := hstep w2 K
    have hvl2 : ∀ g, v.ownBlock = some g → relab lab (some w.heap.size) (5, (M.made : Int) + 1) g = some (4, (L : Int)) := fun g hg => by
      rw [hx.keep g (by simp [hvl g hg])]
      exact hvl g hg
    have h3 := h2.inner_app (l := l) (x := (M.made : Int) + 1) (by simpa [PM.mk'] using hl) hvl2 hown hgrow hat
    have e4 : ({ M.mk' n true with frames := (M.mk' n true).frames.modify L fun l => l ++ [(M.made : Int) + 1] } : PM) = M.mk' n false := by
      simp [PM.mk', hL]
    rw [e4] at h3
    refine ⟨rfl, _, ⟨gb, bm, _, _, _, h3⟩, hx.trans ⟨?_, relab_keep hat hvl2 h2.old, relab_new hat hvl2⟩⟩
    refine ((Only.refl _ _).grown hgrow fun g hg => .inl ?_).setCell (.inl ?_) _
    · rw [hvl2 g hg]; simp
    · rw [hx.keep og (by simp [hog])]; simp [hog]
end Go.Proofs.Ytabfmoedbnpihaa
