/- Steps towards the law (texts of this seat, put into one). No conditions of its own beyond those that its theorems name. -/
import Derived.Test.YtfahoomkpammiaaZL0
import Derived.Laws.Rows
import Derived.Test.YtfahoomkpammiaaPHistOrdersx5
import Derived.Deep.RegionHeld3
import Derived.Test.YtfahoomkpammiaaWWords
import Derived.Deep.Slices
import Derived.ChangeArms
import Derived.SizedLaws
import Derived.Test.YtfahoomkpammiaaPHistOrdersx0
import Derived.Test.YtfahoomkpammiaaRows
import Derived.ProofKit
import Derived.OpenShut
import Derived.ShutString
import Derived.ChangeOld
import Derived.Below
import Derived.Deep.Fields
import Derived.ChangeSame
namespace Go.Proofs.Ytfahoomkpammiaa
open Go.RowKit Go.MapKept Go.Shelf Go.Proofs.YtfahoomkpammiaaW.PrintWords Go.Proofs.YtfahoomkpammiaaW.PrintLast Go.Proofs.YtfahoomkpammiaaW.PrintMore Go.Proofs.Ytfahoomkpammiaa.PHistOrders
abbrev KS := List Int × List (List Int)
/-- the call k stands ahead of the call i -/
def kput (i : Nat) (st : KS) (k : Nat) : KS := (st.1.set i (wrap64 (st.1.getD i 0 + 1)), st.2.set k (st.2.getD k [] ++ [(i : Int)]))
def kputs (i : Nat) {n : Nat} (st : KS) (l : List (Nth n)) : KS := l.foldl (fun s k => kput i s k.1) st
/-- behind i rounds of the first loop -/
def pst (cs : List S70) (mk : Mk) : Nat → KS
  | 0 => (List.replicate cs.length 0, List.replicate cs.length [])
  | i + 1 => kputs i (pst cs mk i) (aheadTo cs mk cs.length i cs.length (Nat.le_refl _))
theorem kputs_snoc (i : Nat) {n : Nat} (st : KS) (l : List (Nth n)) (k : Nth n) : kputs i st (l ++ [k]) = kput i (kputs i st l) k.1 := by unfold kputs; rw [List.foldl_append]; rfl
theorem kputs_len (i : Nat) {n : Nat} (st : KS) : ∀ (l : List (Nth n)), (kputs i st l).1.length = st.1.length ∧ (kputs i st l).2.length = st.2.length := by
  intro l
  unfold kputs
  induction l generalizing st with
  | nil => exact ⟨rfl, rfl⟩
  | cons k l ih =>
    rw [List.foldl_cons]
    have := ih (kput i st k.1)
    simpa [kput] using this
theorem pst_len (cs : List S70) (mk : Mk) : ∀ i, (pst cs mk i).1.length = cs.length ∧ (pst cs mk i).2.length = cs.length := by
  intro i
  induction i with
  | zero => exact ⟨by simp [pst], by simp [pst]⟩
  | succ i ih =>
    have := kputs_len i (pst cs mk i) (aheadTo cs mk cs.length i cs.length (Nat.le_refl _))
    exact ⟨this.1.trans ih.1, this.2.trans ih.2⟩
theorem kputs_bound (i : Nat) {n : Nat} (st : KS) (l : List (Nth n)) (k : Nat) : ((kputs i st l).2.getD k []).length ≤ (st.2.getD k []).length + l.length := by
  unfold kputs
  induction l generalizing st with
  | nil => simp
  | cons a l ih =>
    rw [List.foldl_cons]
    have h1 := ih (kput i st a.1)
    have h2 : ((kput i st a.1).2.getD k []).length ≤ (st.2.getD k []).length + 1 := by
      unfold kput
      simp only [List.getD_eq_getElem?_getD, List.getElem?_set]
      split
      · rename_i e
        subst e
        split
        · simp
        · simp
      · omega
    rw [List.length_cons]
    omega
theorem pst_bound (cs : List S70) (mk : Mk) (i k : Nat) : ((pst cs mk i).2.getD k []).length ≤ i * cs.length := by
  induction i with
  | zero => simp only [pst, List.getD_eq_getElem?_getD, List.getElem?_replicate]; split <;> simp
  | succ i ih =>
    have h1 := kputs_bound i (pst cs mk i) (aheadTo cs mk cs.length i cs.length (Nat.le_refl _)) k
    have h2 := aheadTo_len cs mk cs.length i cs.length (Nat.le_refl _)
    have h3 : (pst cs mk (i + 1)).2 = (kputs i (pst cs mk i) (aheadTo cs mk cs.length i cs.length (Nat.le_refl _))).2 := rfl
    rw [h3, Nat.succ_mul]
    omega
/-- what is called when Order ends: nothing; the blocks are shut -/
def Marks (W : World) (N : Nat) (ds : List Deferred) : Prop := ∃ Ds : List Nat, ds = Ds.map (fun D => { target := .collected D, args := #[] }) ∧ Ds.Nodup ∧ ∀ D ∈ Ds, N + 4 ≤ D ∧ W.heap[D]? = some (.deferred (some []))
theorem Marks.nil (W : World) (N : Nat) : Marks W N [] := ⟨[], rfl, List.nodup_nil, fun D h => by cases h⟩
theorem Marks.keep {W W1 : World} {N : Nat} {ds : List Deferred} (h : Marks W N ds) (hk : ∀ b, b < W.heap.size → (∃ o : Obj, W.heap[b]? = some o ∧ o.isCells = false) → W1.heap[b]? = W.heap[b]?) : Marks W1 N ds := by
  obtain ⟨Ds, h1, h2, h3⟩ := h
  exact ⟨Ds, h1, h2, fun D hD => ⟨(h3 D hD).1, (hk D (blk_lt (h3 D hD).2) ⟨_, (h3 D hD).2, rfl⟩).trans (h3 D hD).2⟩⟩
theorem Marks.lt {W : World} {N D : Nat} {ds : List Deferred} (h : Marks W N ds) (hD : { target := .collected D, args := #[] } ∈ ds) : D < W.heap.size := by
  obtain ⟨Ds, rfl, _, h3⟩ := h
  obtain ⟨D', q, e⟩ := List.mem_map.1 hD
  injection e with e _
  injection e with e
  subst e
  exact blk_lt (h3 _ q).2
theorem Marks.cons {W W1 : World} {N D : Nat} {ds : List Deferred} (h : Marks W N ds) (hk : Marks W1 N ds) (hD : W.heap.size ≤ D) (hN : N + 4 ≤ D) (h1 : W1.heap[D]? = some (.deferred (some []))) : Marks W1 N ({ target := .collected D, args := #[] } :: ds) := by
  obtain ⟨Ds, e, h2, h3⟩ := hk
  obtain ⟨Ds', e', h2', h3'⟩ := h
  have : Ds' = Ds := by
    rw [e] at e'
    have hinj : ∀ (l l' : List Nat), l.map (fun D => ({ target := .collected D, args := #[] } : Deferred)) = l'.map (fun D => { target := .collected D, args := #[] }) → l = l' := by
      intro l
      induction l with
      | nil => intro l' q; cases l' with
        | nil => rfl
        | cons a l' => cases q
      | cons a l ih => intro l' q; cases l' with
        | nil => cases q
        | cons b l' =>
          simp only [List.map_cons, List.cons.injEq] at q
          obtain ⟨q1, q2⟩ := q
          injection q1 with q1 _
          injection q1 with q1
          rw [q1, ih l' q2]
    exact (hinj _ _ e').symm
  subst this
  refine ⟨D :: Ds', by rw [e]; rfl, List.nodup_cons.2 ⟨fun q => ?_, h2⟩, fun D' hD' => ?_⟩
  · have := blk_lt (h3' D q).2
    omega
  · rcases List.mem_cons.1 hD' with rfl | q
    · exact ⟨hN, h1⟩
    · exact h3 D' q
/-- ahead of the i-th round of the first loop -/
structure L1 (N : Nat) (w2 W : World) (cs : List S70) (mk : Mk) (i : Nat) (ds : List Deferred) : Prop where
  mem : KMem W N (pst cs mk i).1 (pst cs mk i).2 (fun b => N + 4 ≤ b)
  below : Below N w2 W
  marks : Marks W N ds
/-- between two rounds over behind, in the i-th round; x: where i is boxed -/
def I1 (N : Nat) (w2 : World) (cs : List S70) (mk : Mk) (i x : Nat) (ds : List Deferred) (pre : List (Nth cs.length)) (W : World) : Prop :=
  KMem W N (kputs i (pst cs mk i) pre).1 (kputs i (pst cs mk i) pre).2 (fun b => N + 4 ≤ b ∧ (b < x ∨ x + 4 ≤ b)) ∧ W.heap[x]? = some (.cells #[.int .i64 (i : Int)] 3 (0, 0)) ∧ Below N w2 W ∧ Marks W N ds ∧ x + 4 ≤ W.heap.size
theorem I1_own (N : Nat) (w2 : World) (cs : List S70) (mk : Mk) (i x : Nat) (ds : List Deferred) (w3 : World) (hN : N ≤ w3.heap.size) (hN2 : N ≤ w2.heap.size) (hm : ∀ D, { target := .collected D, args := #[] } ∈ ds → D < w3.heap.size) : OwnFrom w3.heap.size (I1 N w2 cs mk i x ds) := by
  rintro s W W' row ⟨h1, h2, h3, h4, h5⟩ hg hr
  have hcell : ∀ b, b < W.heap.size → (∃ o : Obj, W.heap[b]? = some o ∧ o.isCells = true) → W'.heap[b]? = W.heap[b]? := fun b hb ⟨o, ho, hc⟩ => hg.block b hb (fun e => by
    obtain ⟨_, o', ho', hc'⟩ := hr b e.symm
    rw [ho] at ho'
    cases ho'
    rw [hc] at hc'
    cases hc')
  refine ⟨h1.keep fun b _ hb hc => hcell b hb hc, (hcell x (blk_lt h2) ⟨_, h2, rfl⟩).trans h2, ?_, ?_, Nat.le_trans h5 hg.size⟩
  · exact h3.trans ⟨hg.os, hg.tape, hg.output, hg.size, fun b hb => by
      rcases Nat.lt_or_ge b W.heap.size with q | q
      · exact hg.block b q (fun e => by have := (hr b e.symm).1; omega)
      · have := h3.size; omega⟩
  · obtain ⟨Ds, e, hn, hD⟩ := h4
    refine ⟨Ds, e, hn, fun D q => ⟨(hD D q).1, (hg.block D (blk_lt (hD D q).2) (fun e2 => ?_)).trans (hD D q).2⟩⟩
    have := (hr D e2.symm).1
    have := hm D (by rw [e]; exact List.mem_map.2 ⟨D, q, rfl⟩)
    omega
theorem I1_next {N : Nat} {w2 : World} {cs : List S70} {mk : Mk} {i x : Nat} {ds : List Deferred} {pre : List (Nth cs.length)} {W W1 w9 : World} {y : Nth cs.length} (hI : I1 N w2 cs mk i x ds pre W) (hN : N = w2.heap.size) (hx : N + 4 ≤ x) {ws : List Int} {bs : List (List Int)} (hws : ws = (kputs i (pst cs mk i) pre).1) (hbs : bs = (kputs i (pst cs mk i) pre).2)
    {vs : List Value} (hR : RowsAt (W.setCell ⟨N, i, none⟩ (.int .i64 (wrap64 (ws.getD i 0 + 1)))) (N + 2) bs (fun b => N + 4 ≤ b ∧ (b < x ∨ x + 4 ≤ b)) vs) {v : Value} (hv : vs[y.1]? = some v) {l : List Int} (hl : l = bs.getD y.1 [])
    (hb1 : Below (W.setCell ⟨N, i, none⟩ (.int .i64 (wrap64 (ws.getD i 0 + 1)))).heap.size (W.setCell ⟨N, i, none⟩ (.int .i64 (wrap64 (ws.getD i 0 + 1)))) W1) (hk1 : KeepsOthers (W.setCell ⟨N, i, none⟩ (.int .i64 (wrap64 (ws.getD i 0 + 1)))) W1)
    (hg : W1.grownBy w9 v.ownBlock) {A : Option Addr} {C : Nat} (ho : w9.ownsRow 0 3 1 (.slice A (l.length + 1) C) (l.length + 1) (i64s l ++ [.int .i64 (i : Int)])) (hA : A.map Addr.block = v.ownBlock ∨ A.map Addr.block = some W1.heap.size) (B : Nat) :
    KeepsFrom B W (w9.setCell ⟨N + 2, y.1, none⟩ (.slice A (l.length + 1) C)) ∧ Kp w2.heap.size (x + 1) W (w9.setCell ⟨N + 2, y.1, none⟩ (.slice A (l.length + 1) C)) ∧ I1 N w2 cs mk i x ds (pre ++ [y]) (w9.setCell ⟨N + 2, y.1, none⟩ (.slice A (l.length + 1) C)) := by
  obtain ⟨V, hV⟩ : ∃ V, V = W.setCell ⟨N, i, none⟩ (.int .i64 (wrap64 (ws.getD i 0 + 1))) := ⟨_, rfl⟩
  rw [← hV] at hR hb1 hk1
  obtain ⟨m1, m2, m3, m4, m5⟩ := hI
  rw [← hws, ← hbs] at m1
  have hK := m1.setW i (wrap64 (ws.getD i 0 + 1))
  rw [← hV] at hK
  have hVs : V.heap.size = W.heap.size := by rw [hV]; simp [World.setCell]
  have hVW : ∀ b, b ≠ N → V.heap[b]? = W.heap[b]? := fun b hb => by rw [hV]; exact Below.heap_setCell W ⟨N, i, none⟩ _ b hb
  have hlen : (l ++ [(i : Int)]).length = l.length + 1 := by simp
  obtain ⟨k1, k2⟩ := hK.app (l := l ++ [(i : Int)]) hR hv hb1 hg (A := A) (C := C) (by rw [hlen]; simpa [i64s] using ho) hA
  rw [hlen] at k1 k2
  have hW9 : W.heap.size ≤ w9.heap.size := by have := hb1.size; have := hg.size; omega
  have hcell : ∀ (j : Nat) (o : Obj), v.ownBlock = some j → W1.heap[j]? = some o → o.isCells = true := fun j o e ho' => by
    have hkl : y.1 < bs.length := by rw [← hR.len]; exact (List.getElem?_eq_some_iff.1 hv).1
    obtain ⟨cells, hc⟩ := own_typed (hR.row _ _ _ hv (List.getElem?_eq_getElem hkl)) j e
    rw [hb1.block j (blk_lt hc), hc] at ho'
    cases ho'
    rfl
  have hko : KeepsOthers W (w9.setCell ⟨N + 2, y.1, none⟩ (.slice A (l.length + 1) C)) := (((by rw [hV]; exact KeepsOthers.setCell _ _ _ : KeepsOthers W V).trans hk1).trans (KeepsOthers.of_grownBy hg hcell)).trans (KeepsOthers.setCell _ _ _)
  have hos : (w9.setCell ⟨N + 2, y.1, none⟩ (.slice A (l.length + 1) C)).os = W.os ∧ (w9.setCell ⟨N + 2, y.1, none⟩ (.slice A (l.length + 1) C)).tape = W.tape ∧ (w9.setCell ⟨N + 2, y.1, none⟩ (.slice A (l.length + 1) C)).output = W.output := by
    refine ⟨hg.os.trans (hb1.os.trans (by rw [hV]; rfl)), hg.tape.trans (hb1.tape.trans (by rw [hV]; rfl)), hg.output.trans (hb1.output.trans (by rw [hV]; rfl))⟩
  have hsz : W.heap.size ≤ (w9.setCell ⟨N + 2, y.1, none⟩ (.slice A (l.length + 1) C)).heap.size := by simpa [World.setCell] using hW9
  have hblk : ∀ b, b < W.heap.size → b ≠ N → b ≠ N + 2 → ¬ (N + 4 ≤ b ∧ (b < x ∨ x + 4 ≤ b)) → (w9.setCell ⟨N + 2, y.1, none⟩ (.slice A (l.length + 1) C)).heap[b]? = W.heap[b]? := fun b h1 h2 h3 h4 => (k2 b h3 h4 (by omega)).trans (hVW b h2)
  refine ⟨hko.from B, ⟨hos.1, hos.2.1, hos.2.2, hsz, fun b hb hn => ?_⟩, ?_, ?_, ?_, ?_, by omega⟩
  · have hkb : KeepB w2.heap.size (x + 1) b := Classical.byContradiction fun q => hn q
    unfold KeepB at hkb
    exact hblk b hb (by omega) (by omega) (by omega)
  · rw [kputs_snoc]
    show KMem _ N (kput i (kputs i (pst cs mk i) pre) y.1).1 (kput i (kputs i (pst cs mk i) pre) y.1).2 _
    unfold kput
    rw [← hws, ← hbs, ← hl]
    exact k1.ok (fun b hb _ => by rcases hb with q | q; exact q; omega) fun b q => q.1
  · exact (hblk x (blk_lt m2) (by omega) (by omega) (by omega)).trans m2
  · exact m3.trans ⟨hos.1, hos.2.1, hos.2.2, hsz, fun b hb => by
      rcases Nat.lt_or_ge b W.heap.size with q | q
      · exact hblk b q (by omega) (by omega) (by omega)
      · have := m3.size; omega⟩
  · exact m4.keep fun b hb ⟨o, h1, h2⟩ => (hko.same b o h1 h2).trans h1.symm
/-! ### the second loop -/
def dec1 (ws : List Int) (k : Int) : List Int := ws.set k.toNat (wrap64 (ws.getD k.toNat 0 - 1))
def kstep (bs : List (List Int)) (st : List Nat × List Int) : Option (List Nat × List Int) :=
  (idx st.2 0).map fun i => (st.1 ++ [i], (bs.getD i []).foldl dec1 (st.2.set i (-1)))
/-- behind j rounds of the second loop -/
def kat (bs : List (List Int)) (ws : List Int) : Nat → Option (List Nat × List Int)
  | 0 => some ([], ws)
  | j + 1 => (kat bs ws j).bind (kstep bs)
theorem kat_none {bs : List (List Int)} {ws : List Int} {i : Nat} (h : kat bs ws i = none) : ∀ j, i ≤ j → kat bs ws j = none := by
  intro j hij
  induction hij with
  | refl => exact h
  | @step j hij ih => show (kat bs ws j).bind _ = none; rw [ih]; rfl
theorem dec_len (l : List Int) : ∀ ws : List Int, (l.foldl dec1 ws).length = ws.length := by
  induction l with
  | nil => intro ws; rfl
  | cons a l ih => intro ws; rw [List.foldl_cons, ih]; simp [dec1]
theorem kat_len {bs : List (List Int)} {ws : List Int} : ∀ (j : Nat) (st : List Nat × List Int), kat bs ws j = some st → st.1.length = j ∧ st.2.length = ws.length ∧ ∀ i ∈ st.1, i < ws.length := by
  intro j
  induction j with
  | zero => intro st h; cases h; exact ⟨rfl, rfl, fun i q => by cases q⟩
  | succ j ih =>
    intro st h
    obtain ⟨s1, h1, h2⟩ := Option.bind_eq_some_iff.1 h
    obtain ⟨a1, a2, a3⟩ := ih s1 h1
    unfold kstep at h2
    obtain ⟨i, hi, rfl⟩ := Option.map_eq_some_iff.1 h2
    have hlt := (idx_some hi).1
    refine ⟨by simp [a1], by rw [dec_len]; simpa using a2, fun q hq => ?_⟩
    rcases List.mem_append.1 hq with q1 | q1
    · exact a3 q q1
    · obtain rfl := List.mem_singleton.1 q1
      omega
/-- the order of a book's calls -/
def ordB (cs : List S70) (mk : Mk) : Option (List Nat) := (kat (pst cs mk cs.length).2 (pst cs mk cs.length).1 cs.length).map (·.1)
theorem ordB_none {cs : List S70} {mk : Mk} {j : Nat} (hj : j < cs.length) {st : List Nat × List Int} (h : kat (pst cs mk cs.length).2 (pst cs mk cs.length).1 j = some st) (hn : idx st.2 0 = none) : ordB cs mk = none := by
  unfold ordB
  rw [kat_none (i := j + 1) (by show (kat _ _ j).bind _ = none; rw [h]; show kstep _ st = none; unfold kstep; rw [hn]; rfl) cs.length (by omega)]
  rfl
def inR (n : Nat) (bs : List (List Int)) : Prop := ∀ (k : Nat), ∀ x ∈ bs.getD k [], 0 ≤ x ∧ x < (n : Int)
theorem kputs_inR {i n : Nat} (hi : i < n) {m : Nat} (st : KS) (h : inR n st.2) (l : List (Nth m)) : inR n (kputs i st l).2 := by
  unfold kputs
  induction l generalizing st with
  | nil => exact h
  | cons a l ih =>
    rw [List.foldl_cons]
    refine ih (kput i st a.1) fun k x hx => ?_
    unfold kput at hx
    simp only [List.getD_eq_getElem?_getD, List.getElem?_set] at hx
    split at hx
    · rename_i e
      subst e
      split at hx
      · simp only [Option.getD_some, List.mem_append, List.mem_singleton] at hx
        rcases hx with hx | rfl
        · exact h a.1 x (by simpa [List.getD_eq_getElem?_getD] using hx)
        · omega
      · simp at hx
    · exact h k x (by simpa [List.getD_eq_getElem?_getD] using hx)
theorem pst_inR (cs : List S70) (mk : Mk) : ∀ i, i ≤ cs.length → inR cs.length (pst cs mk i).2 := by
  intro i
  induction i with
  | zero =>
    intro _ k x hx
    simp only [pst, List.getD_eq_getElem?_getD, List.getElem?_replicate] at hx
    split at hx <;> simp at hx
  | succ i ih =>
    intro hi
    exact kputs_inR (by omega) _ (ih (by omega)) _
/-- ahead of a round of the second loop; wE: behind the first one -/
structure K2 (N : Nat) (w2 wE W : World) (ws : List Int) (bs : List (List Int)) (out : List Int) (v : Value) (ds : List Deferred) : Prop where
  mem : KMem W N ws bs (fun b => N + 4 ≤ b ∧ b < wE.heap.size)
  row : W.ownsRow wE.heap.size 3 1 v out.length (i64s out)
  below : Below N w2 W
  marks : Marks W N ds
  size : wE.heap.size ≤ W.heap.size
theorem K2.of {N : Nat} {w2 wE W W1 : World} {ws : List Int} {bs : List (List Int)} {out : List Int} {v : Value} {ds : List Deferred} (h : K2 N w2 wE W ws bs out v ds) (hb : Below W.heap.size W W1) (hN : N ≤ W.heap.size) : K2 N w2 wE W1 ws bs out v ds := by
  refine ⟨h.mem.keep fun b _ hb1 _ => hb.block b hb1, ?_, h.below.trans (hb.mono hN), h.marks.keep fun b hb1 _ => hb.block b hb1, Nat.le_trans h.size hb.size⟩
  refine ⟨h.row.1, ?_⟩
  rcases h.row.2 with hh | ⟨g, cap, cur, rfl, h1, hgg, rest⟩
  · exact .inl hh
  · refine .inr ⟨g, cap, cur, rfl, h1, ?_, rest⟩
    rw [hb.block g (blk_lt hgg)]
    exact hgg
theorem K2.setW {N : Nat} {w2 wE W : World} {ws : List Int} {bs : List (List Int)} {out : List Int} {v : Value} {ds : List Deferred} (h : K2 N w2 wE W ws bs out v ds) (hE : N < wE.heap.size) (i : Nat) (x : Int) : K2 N w2 wE (W.setCell ⟨N, i, none⟩ (.int .i64 x)) (ws.set i x) bs out v ds := by
  refine ⟨h.mem.setW i x, own_far h.row (fun e => ?_) _, ?_, h.marks.keep fun b hb ⟨o, h1, h2⟩ => ((KeepsOthers.setCell W ⟨N, i, none⟩ (.int .i64 x)).same b o h1 h2).trans h1.symm, by simpa [World.setCell] using h.size⟩
  · have := (h.row.lt _ e).1
    simp at this
    omega
  · refine h.below.trans ⟨rfl, rfl, rfl, by simp [World.setCell], fun b hb => Below.heap_setCell W ⟨N, i, none⟩ _ b (by simp; omega)⟩
theorem K2.app {N : Nat} {w2 wE W W1 W2 : World} {ws : List Int} {bs : List (List Int)} {out : List Int} {v : Value} {ds : List Deferred} (h : K2 N w2 wE W ws bs out v ds) (hE : N + 4 ≤ wE.heap.size) (hb : Below W.heap.size W W1) (hg : W1.grownBy W2 v.ownBlock) {x : Int} {A : Option Addr} {C : Nat} (ho : W2.ownsRow wE.heap.size 3 1 (.slice A (out.length + 1) C) (out.length + 1) (i64s out ++ [.int .i64 x])) :
    K2 N w2 wE W2 ws bs (out ++ [x]) (.slice A (out.length + 1) C) ds := by
  have h1 := h.of hb (by have := h.size; omega)
  have hrow : ∀ g, v.ownBlock = some g → wE.heap.size ≤ g := fun g e => (h.row.lt g e).1
  have hst : ∀ b, b < W1.heap.size → (∀ g, v.ownBlock = some g → b ≠ g) → W2.heap[b]? = W1.heap[b]? := fun b hb hn => hg.block b hb fun e => hn b e.symm rfl
  refine ⟨h1.mem.keep fun b hb1 hb2 _ => hst b hb2 fun g e => ?_, by simpa [i64s] using ho, h1.below.trans ⟨hg.os, hg.tape, hg.output, hg.size, fun b hb1 => ?_⟩, h1.marks.keep fun b hb1 ⟨o, q1, q2⟩ => hst b hb1 fun g e => ?_, Nat.le_trans h1.size hg.size⟩
  · have := hrow g e
    rcases hb1 with q | q <;> omega
  · rcases Nat.lt_or_ge b W1.heap.size with q | q
    · exact hst b q fun g e => by have := hrow g e; omega
    · have := h1.size; omega
  · rintro rfl
    obtain ⟨cells, hc⟩ := own_typed h1.row b e
    rw [hc] at q1
    cases q1
    cases q2
theorem KMem.reads {W : World} {N : Nat} {ws : List Int} {bs : List (List Int)} {ok : Nat → Prop} (h : KMem W N ws bs ok) (hl : ws.length ≤ 9223372036854775807) : Kd.C (Kd.int .i64) W (some ⟨N, 0, none⟩) ws.length ws := by
  refine ⟨rfl, hl, fun _ => ⟨⟨N, 0, none⟩, rfl, fun j p hp => ⟨[.int .i64 p], rfl, rfl, fun i u hu => ?_⟩⟩⟩
  rcases i with _ | i
  · cases hu
    have hj := blk_cell h.g8 (i := j) (show (i64s ws).toArray[j]? = some (.int .i64 p) by simp [i64s, hp])
    show W.cell? ((⟨N, 0, none⟩ : Addr).add (j * 1 + 0)) = _
    rw [Addr.add_lit, Nat.zero_add, Nat.mul_one, Nat.add_zero]
    exact hj
  · cases hu
/-! ### what Order answers -/
open Classical in
/-- the calls of a history, where it is one -/
noncomputable def readB (l0 : List S45) : Option (List S70) := (rat l0 l0.length).bind fun s => if (∀ k, s.opn k = none) ∧ s.calls.length ≤ 64 then some s.calls else none
theorem readB_none {l0 : List S45} (h : rat l0 l0.length = none) : readB l0 = none := by unfold readB; rw [h]; rfl
theorem readB_no {l0 : List S45} {s : RS} (h : rat l0 l0.length = some s) (hn : ¬ ((∀ k, s.opn k = none) ∧ s.calls.length ≤ 64)) : readB l0 = none := by
  unfold readB
  rw [h]
  exact if_neg hn
theorem readB_yes {l0 : List S45} {s : RS} (h : rat l0 l0.length = some s) (hn : (∀ k, s.opn k = none) ∧ s.calls.length ≤ 64) : readB l0 = some s.calls := by
  unfold readB
  rw [h]
  exact if_pos hn
def froms (cs : List S70) (os : List Nat) : List Int := os.map fun i : Nat => (rd_T70 cs i).f0
noncomputable def ordP (l0 : List S45) : Option (Option (List Int)) := (readB l0).map fun cs => (madeB cs).bind fun mk => (ordB cs mk).map (froms cs)
/-- what Order answers, for what -/
def OrdIs (w : World) (base : Nat) (v : Value) (b : Bool) (x : Int) : Option (Option (List Int)) → Prop
  | none => v = .slice none 0 0 ∧ b = false ∧ x = 230
  | some none => v = .slice none 0 0 ∧ b = false ∧ x = 0
  | some (some l) => w.ownsRow base 3 1 v l.length (i64s l) ∧ b = true ∧ x = 0
def OrdPost (w : World) (l0 : List S45) (e : Ending) (w' : World) : Prop := ∃ v b x, e = .returned (.tuple #[v, .bool b, .int .i64 x]) ∧ Below w.heap.size w w' ∧ OrdIs w' w.heap.size v b x (ordP l0)
theorem OrdPost.refused {w w' : World} {l0 : List S45} (h : readB l0 = none) (hb : Below w.heap.size w w') : OrdPost w l0 (.returned (.tuple #[.slice none 0 0, .bool false, .int .i64 230])) w' := ⟨_, _, _, rfl, hb, by unfold ordP; rw [h]; exact ⟨rfl, rfl, rfl⟩⟩
theorem OrdPost.none1 {w w' : World} {l0 : List S45} {cs : List S70} (h : readB l0 = some cs) (hm : madeB cs = none) (hb : Below w.heap.size w w') : OrdPost w l0 (.returned (.tuple #[.slice none 0 0, .bool false, .int .i64 0])) w' := ⟨_, _, _, rfl, hb, by unfold ordP; rw [h]; simp only [Option.map_some, hm, Option.bind_none]; exact ⟨rfl, rfl, rfl⟩⟩
theorem OrdPost.none2 {w w' : World} {l0 : List S45} {cs : List S70} {mk : Mk} (h : readB l0 = some cs) (hm : madeB cs = some mk) (ho : ordB cs mk = none) (hb : Below w.heap.size w w') : OrdPost w l0 (.returned (.tuple #[.slice none 0 0, .bool false, .int .i64 0])) w' := ⟨_, _, _, rfl, hb, by unfold ordP; rw [h]; simp only [Option.map_some, hm, Option.bind_some, ho, Option.map_none]; exact ⟨rfl, rfl, rfl⟩⟩
theorem OrdPost.yes {w w' : World} {l0 : List S45} {cs : List S70} {mk : Mk} {os : List Nat} {v : Value} (h : readB l0 = some cs) (hm : madeB cs = some mk) (ho : ordB cs mk = some os) (hb : Below w.heap.size w w') (hr : w'.ownsRow w.heap.size 3 1 v (froms cs os).length (i64s (froms cs os))) : OrdPost w l0 (.returned (.tuple #[v, .bool true, .int .i64 0])) w' := ⟨_, _, _, rfl, hb, by unfold ordP; rw [h]; simp only [Option.map_some, hm, Option.bind_some, ho]; exact ⟨hr, rfl, rfl⟩⟩
/-- a call that ended has as many values as keys, where it is a Snapshot -/
theorem ends_lens {o : S40} {r : S43} (hl : r.f2.length ≤ 9223372036854775807) (h : endsB o r = true) (h1 : o.f0 ≠ 1) (h2 : o.f0 ≠ 2) : r.f2.length = r.f3.length := by
  have hs := ends_some o r hl
  rw [h] at hs
  have hh := ends_loop r hl (r.f2.length + 1) 0 (Nat.zero_le _) (by omega)
  unfold hist_ends.f at hs
  have hz : ((0 : Nat) : Int) = 0 := rfl
  rw [hz] at hh
  simp only [h1, h2, if_false, hh] at hs
  have : (ascFrom r.f2 0 && tailB r) = true := by
    first
      | exact Option.some.inj hs
      | (split at hs <;> first | exact Option.some.inj hs | (exfalso; omega) | (split at hs <;> first | exact Option.some.inj hs | (exfalso; omega)))
  rw [Bool.and_eq_true] at this
  have ht := this.2
  unfold tailB at ht
  simp only [Bool.and_eq_true, decide_eq_true_eq] at ht
  exact ht.2.2
def lensOk (cs : List S70) : Prop := ∀ i, i < cs.length → (rd_T70 cs i).f2.f0 ≠ 1 → (rd_T70 cs i).f2.f0 ≠ 2 → (rd_T70 cs i).f3.f2.length = (rd_T70 cs i).f3.f3.length
theorem rd_app {cs : List S70} {c : S70} {i : Nat} (hi : i < cs.length + 1) : rd_T70 (cs ++ [c]) i = if i < cs.length then rd_T70 cs i else c := by
  unfold rd_T70
  simp only [Int.toNat_natCast, List.getD_eq_getElem?_getD]
  split
  · rename_i h
    rw [List.getElem?_append_left h]
  · rename_i h
    obtain rfl : i = cs.length := by omega
    simp
theorem rd_set {cs : List S70} {c : S70} {i n : Nat} (hn : n < cs.length) : rd_T70 (cs.set n c) i = if i = n then c else rd_T70 cs i := by
  unfold rd_T70
  simp only [Int.toNat_natCast, List.getD_eq_getElem?_getD, List.getElem?_set]
  split
  · rename_i h
    subst h
    simp
  · rename_i h
    rw [if_neg (fun q => h q.symm)]
theorem rat_lens {l0 : List S45} (hl : ∀ m ∈ l0, m.f3.f2.length ≤ 9223372036854775807) : ∀ (i : Nat) (s : RS), i ≤ l0.length → rat l0 i = some s → lensOk s.calls := by
  intro i
  induction i with
  | zero => intro s _ h; cases h; intro j hj; simp at hj
  | succ i ih =>
    intro s hi h
    have hm := List.getElem?_eq_getElem (show i < l0.length by omega)
    rw [rat_succ l0 i _ hm] at h
    obtain ⟨s1, h1, h2⟩ := Option.bind_eq_some_iff.1 h
    have hok := ih s1 (by omega) h1
    have hop := rat_opn i s1 (by omega) h1
    unfold rstep at h2
    split at h2
    · split at h2
      · obtain rfl := Option.some.inj h2
        intro j hj a1 a2
        simp only [List.length_append, List.length_singleton] at hj
        rw [rd_app hj] at a1 a2 ⊢
        split at a1
        · rename_i q
          rw [if_pos q] at a2 ⊢
          exact hok j q a1 a2
        · rename_i q
          rw [if_neg q]
          rfl
      · cases h2
    · split at h2
      · cases h2
      · rename_i n hn
        split at h2
        · rename_i hq
          obtain rfl := Option.some.inj h2
          intro j hj a1 a2
          simp only [List.length_set] at hj
          have hnl := hop _ _ hn
          rw [rd_set hnl] at a1 a2 ⊢
          split at a1
          · rename_i q
            rw [if_pos q] at a2 ⊢
            rw [hq.1.1] at a1 a2
            exact ends_lens (hl _ (List.getElem_mem _)) hq.2 a1 a2
          · rename_i q
            rw [if_neg q] at a2 ⊢
            exact hok j hj a1 a2
        · cases h2
theorem own_marks {W W' : World} {base base' n N : Nat} {e : TypeId} {v : Value} {xs : List Value} (h : W.ownsRow base e 1 v n xs) (ho : Only W W' (fun b => N + 4 ≤ b ∧ ∃ o : Obj, W.heap[b]? = some o ∧ o.isCells = false)) (hb : base' ≤ base) : W'.ownsRow base' e 1 v n xs := by
  refine ⟨h.1, ?_⟩
  rcases h.2 with hh | ⟨g, cap, cur, rfl, h1, hgg, rest⟩
  · exact .inl hh
  · refine .inr ⟨g, cap, cur, rfl, by omega, ?_, rest⟩
    rw [ho.block g (blk_lt hgg) (fun q => by
      obtain ⟨_, o, q1, q2⟩ := q
      rw [hgg] at q1
      cases q1
      cases q2)]
    exact hgg
/-- Order's blocks are shut, one by one -/
theorem leaves_marks {F : Fence} {n : Nat} {P : Program} {fn : Func} {tmps : Array Value} {R : Ending → World → Prop} {N : Nat} : ∀ (ds : List Deferred) (W : World), Marks W N ds →
    (∀ W', Only W W' (fun b => N + 4 ≤ b ∧ ∃ o : Obj, W.heap[b]? = some o ∧ o.isCells = false) → ∃ v, (results fn tmps).run P W' = .ok v W' ∧ R (.returned v) W') → LeavesInM F n P fn tmps R ds .returning W
  | [], W, _, h => h W (Only.refl _ _)
  | d :: ds, W, hm, h => by
    obtain ⟨Ds, e, hn, hD⟩ := hm
    cases Ds with
    | nil => cases e
    | cons D Ds =>
      simp only [List.map_cons, List.cons.injEq] at e
      obtain ⟨rfl, rfl⟩ := e
      obtain ⟨hnD, hn⟩ := List.nodup_cons.1 hn
      have h1 := hD D (by simp)
      refine ⟨by simp, .inl ⟨D, _, rfl, run_takeDeferred h1.2, leaves_marks _ _ ⟨Ds, rfl, hn, fun D' q => ⟨(hD D' (by simp [q])).1, ?_⟩⟩ fun W' ho => h W' ?_⟩⟩
      · exact (World.putObj_heap_other (by rintro rfl; exact hnD q)).trans (hD D' (by simp [q])).2
      · refine (only_putObj D _ ⟨h1.1, _, h1.2, rfl⟩ : Only W (W.putObj D (.deferred none)) _).trans ho fun b hb => ?_
        obtain ⟨q1, o, q2, q3⟩ := hb
        by_cases hbD : b = D
        · subst hbD
          exact .inl ⟨q1, _, h1.2, rfl⟩
        · exact .inl ⟨q1, o, (World.putObj_heap_other hbD).symm.trans q2, q3⟩
end Go.Proofs.Ytfahoomkpammiaa
namespace Go.Proofs.Ytfahoomkpammiaa
open Go.RowKit Go.MapKept Go.Shelf Go.Proofs.YtfahoomkpammiaaW.PrintWords Go.Proofs.YtfahoomkpammiaaW.PrintLast Go.Proofs.YtfahoomkpammiaaW.PrintMore Go.Proofs.Ytfahoomkpammiaa.PHistOrders
attribute [local go_sem] Oper.semAt_some
set_option maxRecDepth 200000 in
set_option maxHeartbeats 4000000 in
theorem order_walk (w : World) (A : Option Addr) (c : Nat) (l0 : List S45) (hr : Kd.C k45 w A l0.length l0) (hc : l0.length ≤ c) (hl : l0.length ≤ 2147483647) :
    Calls Try.prog 10 #[.slice A l0.length c] w fun e w' => OrdPost w l0 e w' := by
  refine (callsIn_wide (n := 9)).1 ?_
  refine callsIn_of_wp_marks Try.func10 rfl trivial ?_ rfl
  simp only [Try.ntmps10, List.size_toArray, List.length_cons, List.length_nil, Nat.reduceAdd, Nat.reduceSub, Array.replicate_succ, Array.replicate_zero, List.push_toArray, List.append_toArray, List.nil_append, List.cons_append]
  refine wpIn_wide.2 ?_
  go_wp2_with fail
  refine (read_walk w A c l0 hr hc hl).mono ?_
  rintro e w1 ⟨hb, v, ok, rfl, hend⟩
  have HW1 := Lib.hid (And.intro hb hend)
  clear hb hend
  cases ok with
  | false =>
    have hno : readB l0 = none := by
      have hend := HW1.out.2
      cases q : rat l0 l0.length with
      | none => exact readB_none q
      | some s =>
        rw [q] at hend
        exact readB_no q fun k => by have := hend.2.2 k; cases this
    have HNO := Lib.hid hno
    clear hno
    go_wp2_with fail
    refine ⟨_, results_tmp3 rfl _ _ _, ?_⟩
    exact (OrdPost.refused HNO.out HW1.out.1 : OrdPost w l0 (.returned (.tuple #[.slice none 0 0, .bool false, .int .i64 230])) w1)
  | true =>
    obtain ⟨s, hs, hrow, hopn, h64⟩ : ∃ s, rat l0 l0.length = some s ∧ OwnRow (k70.K w) 65 9 w1 w.heap.size v s.calls ∧ (∀ k, s.opn k = none) ∧ s.calls.length ≤ 64 := by
      have hend := HW1.out.2
      cases q : rat l0 l0.length with
      | none => rw [q] at hend; cases hend.2
      | some s => rw [q] at hend; exact ⟨s, rfl, hend.1, (hend.2.1 rfl).1, (hend.2.1 rfl).2⟩
    have hrd : readB l0 = some s.calls := readB_yes hs ⟨hopn, h64⟩
    have hml : ∀ m ∈ l0, m.f3.f2.length ≤ 9223372036854775807 := fun m hm => by
      obtain ⟨j, hj, rfl⟩ := List.mem_iff_getElem.1 hm
      obtain ⟨ad, E7, e7, E8, e8, _, _, _, _, _, _, _, _, _, _, _, g7, _⟩ := at_T45 hr j (by omega) (by omega)
      have := g7.2.1
      unfold rd_T45 at this
      rw [Int.toNat_natCast, List.getD_eq_getElem?_getD, List.getElem?_eq_getElem hj] at this
      exact this
    have hlens : lensOk s.calls := rat_lens hml _ _ (Nat.le_refl _) hs
    clear hml
    obtain ⟨A1, c1, hv, hcap, hC⟩ := (hrow.imp_ (fun _ _ => k70.K_below HW1.out.1)).reads
    subst hv
    obtain ⟨cs, hcs⟩ : ∃ cs, cs = s.calls := ⟨_, rfl⟩
    rw [← hcs] at hrow h64 hcap hC hrd hlens ⊢
    have hK : ∀ i, i < cs.length → (rd_T70 cs i).f3.f2.length ≤ 9223372036854775807 := fun i hi => by
      obtain ⟨ad, E7, e7, E8, e8, _, _, _, _, _, _, _, _, _, _, _, g7, _⟩ := at_T70 hC i (by omega) (by omega)
      exact g7.2.1
    have HS := Lib.hid (And.intro hs (And.intro hrow (And.intro hopn (And.intro hC (And.intro hcs hK)))))
    have HRD := Lib.hid (And.intro hrd hlens)
    clear hs hrow hopn hC hcs hK hrd hlens
    go_wp2_with fail
    have hbk : (w1.alloc (.cells #[.slice A1 cs.length c1, .map none] 58)).heap[w1.heap.size]? = some (.cells #[.slice A1 cs.length c1, .map none] 58 (0, 0)) := blk_new w1 _
    refine (made_walk w1 _ w1.heap.size cs A1 c1 hcap (by omega) HS.out.2.2.2.1 (below_alloc (Below.refl _ _) _) (Nat.le_refl _) hbk HRD.out.2 HS.out.2.2.2.2.2).mono ?_
    clear hbk
    rintro e w2 ⟨ho, hm⟩
    have HW2 := Lib.hid (And.intro ho hm)
    clear ho hm
    cases hmd : madeB cs with
    | none =>
      have hB2 : Below w.heap.size w w2 := HW1.out.1.trans ((below_alloc (Below.refl w1.heap.size w1) _).trans (HW2.out.1.below (by simp) fun b q => Nat.le_of_eq q.symm) |>.mono HW1.out.1.size)
      have he : e = .returned (.bool false) := by
        have := HW2.out.2
        unfold MadeEnd at this
        rw [hmd] at this
        exact this
      subst he
      have HM := Lib.hid (And.intro hmd hB2)
      clear hmd hB2
      go_wp2_with fail
      refine ⟨_, results_tmp3 rfl _ _ _, ?_⟩
      exact (OrdPost.none1 HRD.out.1 HM.out.1 HM.out.2 : OrdPost w l0 (.returned (.tuple #[.slice none 0 0, .bool false, .int .i64 0])) w2)
    | some mk =>
      obtain ⟨he, hbk⟩ : e = .returned (.bool true) ∧ BookAt w2 w1.heap.size cs mk A1 c1 (w1.heap.size + 1) := by
        have := HW2.out.2
        unfold MadeEnd at this
        rw [hmd] at this
        simpa using this
      subst he
      have HM := Lib.hid (And.intro hmd hbk)
      clear hmd hbk
      have hm1 := run_makeInts cs.length (by omega)
      have hm2 := run_makeRows cs.length (by omega)
      go_wp2_with fail
      obtain ⟨b1, hb1⟩ : ∃ b1, b1 = w1.heap.size := ⟨_, rfl⟩
      rw [← hb1]
      obtain ⟨N, hN⟩ : ∃ N, N = w2.heap.size := ⟨_, rfl⟩
      have HB1 := Lib.hid (And.intro hb1 hN)
      have HBK : Hid (BookAt w2 b1 cs mk A1 c1 (w1.heap.size + 1)) := Lib.hid (by rw [hb1]; exact HM.out.2)
      clear hb1 hm1 hm2 hN
      refine wp_loop (fun a W => ∃ (u10 u11 u37 u38 u39 u40 u41 u42 u60 : Value) (ds : List Deferred), (∃ i : Nat, i ≤ cs.length ∧ u37 = .int .i64 i ∧ L1 N w2 W cs mk i ds) ∧
        a = { tmps := #[.slice A l0.length c, undef, .slice none 0 0, .bool false, .int .i64 0, .slice A1 cs.length c1, .bool true, .pointer (some ⟨b1, 0, none⟩), .pointer (some ⟨N + 1, 0, none⟩), .pointer (some ⟨N + 3, 0, none⟩), u10, u11, undef, undef, undef, undef, .tuple #[.slice A1 cs.length c1, .bool true], .slice A l0.length c, .tuple #[.slice A1 cs.length c1, .bool true], .slice A1 cs.length c1, .bool true, .bool true, .bool false, .slice A1 cs.length c1, .agg #[.slice A1 cs.length c1, .map none], .pointer (some ⟨b1, 0, none⟩), .pointer (some ⟨b1, 0, none⟩), .bool true, .bool false, .slice A1 cs.length c1, .int .i64 (cs.length : Nat), .slice (some ⟨N, 0, none⟩) cs.length cs.length, .slice A1 cs.length c1, .int .i64 (cs.length : Nat), .slice (some ⟨N + 2, 0, none⟩) cs.length cs.length, .slice A1 cs.length c1, .int .i64 (cs.length : Nat), u37, u38, u39, u40, u41, u42, undef, undef, undef, undef, undef, undef, undef, undef, undef, undef, undef, undef, undef, undef, undef, undef, undef, u60, undef, undef, undef, undef, undef, undef, undef, undef, undef, undef, undef, undef, undef, undef, undef, undef, undef, undef, undef, undef, undef, undef, undef, undef, undef, undef, undef, undef, undef, undef, undef, undef, undef, undef, undef, undef, undef], defers := ds }) (fun a _ => cs.length - (intOf (a.tmps.getD 37 undef)).toNat) ?_ ?_
      · rw [← HB1.out.2]
        refine ⟨_, _, _, _, _, _, _, _, _, [], ⟨0, Nat.zero_le _, rfl, ?_, ?_, Marks.nil _ _⟩, rfl⟩
        · have := KMem.start (w := w2) cs.length
          simp only [List.toArray_replicate] at this
          rw [← HB1.out.2] at this
          exact this
        · rw [HB1.out.2]
          exact below_alloc (below_alloc (below_alloc (below_alloc (Below.refl _ _) _) _) _) _
      · rintro _ wr ⟨u10, u11, u37, u38, u39, u40, u41, u42, u60, ds, ⟨i, hi, rfl, hL⟩, rfl⟩
        have HL := Lib.hid hL
        clear hL
        by_cases hlt : i < cs.length
        · have hlD : decide ((i : Int) < (cs.length : Int)) = true := by simp; omega
          have hlN : decide (i < cs.length) = true := by simp; omega
          go_wp2_with fail
          have hB0 : Below w2.heap.size w2 (wr.alloc (.cells #[.int .i64 i] 3)) := by have := HL.out.below; rw [HB1.out.2] at this; exact below_alloc this _
          refine (behind_calls HBK.out hB0 i hlt).mono ?_
          rintro e w3 ⟨rfl, hB3, hsz3, E7, e7, E8, e8, l7, g7, hlaid⟩
          have hsz : w3.heap.size = wr.heap.size + 4 := by rw [hsz3]; simp
          have HW3 := Lib.hid (And.intro hB0 (And.intro hB3 (And.intro hsz (And.intro l7 (And.intro g7 hlaid)))))
          clear hB0 hB3 hsz3 hsz l7 g7 hlaid
          go_wp2_with fail
          refine (wpIn_wide (n := 9)).1 (wpIn_rangeFunc_ownG (F := Fence.wide) (n := 9) rfl (by omega) (gf := 46) (lb := #[.pointer (some ⟨wr.heap.size + 1, 0, none⟩), .pointer (some ⟨wr.heap.size + 1 + 1, 0, none⟩), .pointer (some ⟨wr.heap.size + 1 + 2, 0, none⟩)]) rfl trivial (enters_of Try.func46 (by kernel_rfl) rfl)
            (behind_stops 8 (by omega) w2 w3 (wr.heap.size + 1) b1 cs mk A1 c1 (w1.heap.size + 1) i hlt E7 e7 E8 e8 HS.out.2.2.2.2.2 HBK.out HW3.out.2.2.2.1 HW3.out.2.2.2.2.1 (below_step HW3.out.1 HW3.out.2.1) (by have := HW3.out.2.2.2.2.2; simpa using this))
            kpt (kpb (by have := HL.out.below.size; omega) (by have := HW3.out.2.2.1; omega)) (Below.refl _ _) (fun _ => rfl)
            (I1 N w2 cs mk i wr.heap.size ds) (fun _ _ _ => False) (I1_own N w2 cs mk i wr.heap.size ds w3 (by have := HL.out.below.size; have := HW3.out.2.2.1; have := HB1.out.2; omega) (by have := HB1.out.2; omega) (fun D hD => by have := HL.out.marks.lt hD; have := HW3.out.2.2.1; omega)) (fun _ _ _ _ _ q _ _ => q) ?start
            (fun x => { tmps := #[.slice A l0.length c, undef, .slice none 0 0, .bool false, .int .i64 0, .slice A1 cs.length c1, .bool true, .pointer (some ⟨b1, 0, none⟩), .pointer (some ⟨N + 1, 0, none⟩), .pointer (some ⟨N + 3, 0, none⟩), .pointer (some ⟨wr.heap.size, 0, none⟩), .int .i64 (x.1 : Int), undef, undef, undef, undef, .tuple #[.slice A1 cs.length c1, .bool true], .slice A l0.length c, .tuple #[.slice A1 cs.length c1, .bool true], .slice A1 cs.length c1, .bool true, .bool true, .bool false, .slice A1 cs.length c1, .agg #[.slice A1 cs.length c1, .map none], .pointer (some ⟨b1, 0, none⟩), .pointer (some ⟨b1, 0, none⟩), .bool true, .bool false, .slice A1 cs.length c1, .int .i64 (cs.length : Nat), .slice (some ⟨N, 0, none⟩) cs.length cs.length, .slice A1 cs.length c1, .int .i64 (cs.length : Nat), .slice (some ⟨N + 2, 0, none⟩) cs.length cs.length, .slice A1 cs.length c1, .int .i64 (cs.length : Nat), .int .i64 i, .bool true, .int .i64 i, .pointer (some ⟨b1, 0, none⟩), .int .i64 i, .func (.func 46) #[] #[.pointer (some ⟨wr.heap.size + 1, 0, none⟩), .pointer (some ⟨wr.heap.size + 1 + 1, 0, none⟩), .pointer (some ⟨wr.heap.size + 1 + 2, 0, none⟩)], .int .i64 (x.1 : Int), undef, undef, undef, undef, undef, undef, undef, undef, undef, undef, undef, undef, undef, undef, undef, undef, u60, undef, undef, undef, undef, undef, undef, undef, undef, undef, undef, undef, undef, undef, undef, undef, undef, undef, undef, undef, undef, undef, undef, undef, undef, undef, undef, undef, undef, undef, undef, undef, undef, undef, undef, undef, undef, undef], defers := [] }) ?assign ?body ?done ?stop)
          case start =>
            have hb2 : Below wr.heap.size wr w3 := (below_alloc (Below.refl _ _) _).trans (HW3.out.2.1.mono (by simp))
            refine ⟨(HL.out.mem.ok (fun b h1 h2 => ⟨h1, .inl h2⟩) fun b q => q.1).keep fun b _ hb _ => hb2.block b hb, blk_below (blk_new wr _) HW3.out.2.1, HL.out.below.trans (hb2.mono (by have := HL.out.below.size; have := HB1.out.2; omega)), HL.out.marks.keep fun b hb _ => hb2.block b hb, by have := HW3.out.2.2.1; omega⟩
          case assign =>
            intro l x W K hK
            gi_wp2
            exact hK
          case body =>
            rintro l pre x W hI1 hlen
            have HIW := Lib.hid hI1
            obtain ⟨hK1, hK2, hK3, hK4, hK5⟩ := hI1
            obtain ⟨ws, hws⟩ : ∃ ws, ws = (kputs i (pst cs mk i) pre).1 := ⟨_, rfl⟩
            obtain ⟨bs, hbs⟩ : ∃ bs, bs = (kputs i (pst cs mk i) pre).2 := ⟨_, rfl⟩
            have hwl : ws.length = cs.length := by rw [hws]; exact (kputs_len _ _ _).1.trans (pst_len cs mk i).1
            have hbl : bs.length = cs.length := by rw [hbs]; exact (kputs_len _ _ _).2.trans (pst_len cs mk i).2
            rw [← hws, ← hbs] at hK1
            have hx := x.2
            obtain ⟨k, hk⟩ : ∃ k, k = x.1 := ⟨_, rfl⟩
            rw [← hk] at hx ⊢
            have a0 := blk_cell hK1.w8 (i := 0) rfl
            have a1 := blk_cell hK2 (i := 0) rfl
            have a2 := blk_cell hK1.g8 (i := i) (show (i64s ws).toArray[i]? = some (.int .i64 (ws.getD i 0)) by simp [i64s, List.getElem?_eq_getElem (show i < ws.length by omega)])
            have f2 := blk_frozen hK1.g8 i
            rw [hwl] at a0
            have hlb : (bs.getD k []).length ≤ i * cs.length + pre.length := by rw [hbs]; have h1 := kputs_bound i (pst cs mk i) pre k; have h2 := pst_bound cs mk i k; omega
            have HI := Lib.hid (And.intro hK1 (And.intro hK2 (And.intro hK3 (And.intro hK4 (And.intro hws (And.intro hbs (And.intro hwl (And.intro hbl (And.intro hk (And.intro hK5 (And.intro hlb hlen)))))))))))
            clear hK1 hK2 hK3 hK4 hws hbs hwl hbl hk hlen hK5 hlb
            gi_wp2
            refine nameWI ?_
            intro V hV
            have hK1 := HI.out.1.setW i (wrap64 (ws.getD i 0 + 1))
            rw [← List.getD_eq_getElem?_getD] at hV
            rw [← hV] at hK1
            obtain ⟨vs, hR⟩ := hK1.g9
            obtain ⟨v, hv⟩ : ∃ v, vs[k]? = some v := ⟨_, List.getElem?_eq_getElem (by rw [hR.len, HI.out.2.2.2.2.2.2.2.1]; exact hx)⟩
            have hrow := hR.row k v (bs.getD k []) hv (by rw [List.getD_eq_getElem?_getD, List.getElem?_eq_getElem (by rw [HI.out.2.2.2.2.2.2.2.1]; exact hx)]; rfl)
            obtain ⟨l, hll⟩ : ∃ l, l = bs.getD k [] := ⟨_, rfl⟩
            rw [← hll] at hrow
            obtain ⟨Ak, ck, rfl⟩ := own_slice hrow
            have hxb : V.heap[wr.heap.size]? = some (.cells #[.int .i64 (i : Int)] 3 (0, 0)) := by
              rw [hV]
              exact blk_far HI.out.2.1 (a := ⟨N, i, none⟩) (by have := blk_lt HL.out.mem.w9; simp; omega) _
            have b0 := blk_cell hK1.w9 (i := 0) rfl
            have b2 := blk_cell hxb (i := 0) rfl
            have b3 := blk_cell hR.blk (i := k) (show vs.toArray[k]? = some _ by simpa using hv)
            have g3 := blk_frozen hR.blk k
            have l1 := blk_lt hK1.w9
            have l2 := blk_lt hxb
            have l3 := blk_lt hR.blk
            rw [HI.out.2.2.2.2.2.2.2.1] at b0
            have hkD : decide ((k : Int) < (cs.length : Int)) = true := by simp; omega
            have hne : ∀ b, b < N + 4 → some b ≠ (Value.slice Ak l.length ck).ownBlock := fun b hb e => by have := hK1.no b (hR.ok k _ b hv e.symm); omega
            have HNE := Lib.hid hne
            have HNX : Hid (some wr.heap.size ≠ (Value.slice Ak l.length ck).ownBlock) := Lib.hid (fun e => by have := hR.ok k _ wr.heap.size hv e.symm; omega)
            have HB0 : Hid (V.heap[N + 3]? = some (.cells #[.slice (some ⟨N + 2, 0, none⟩) cs.length cs.length] 59 (0, 0))) := Lib.hid (by have := hK1.w9; rw [HI.out.2.2.2.2.2.2.2.1] at this; exact this)
            clear hne
            have HR := Lib.hid (And.intro hK1 (And.intro hR (And.intro hv (And.intro hrow (And.intro hxb (And.intro hV hll))))))
            clear hK1 hR hv hrow hxb hV hll a0 a1 a2 f2
            obtain ⟨i0, hi0, hz0, hz1, hz2⟩ := info_parts info3
            have HIN := Lib.hid (And.intro hi0 (And.intro hz0 (And.intro hz1 hz2)))
            clear hi0 hz0 hz1 hz2
            refine wpIn_round_held (S := fun w' => w'.cell? ⟨N + 3, 0, none⟩ = some (.slice (some ⟨N + 2, 0, none⟩) cs.length cs.length) ∧ w'.cell? ⟨wr.heap.size, 0, none⟩ = some (.int .i64 i)) (by kernel_rfl) (by kernel_rfl) (fun _ _ q => q) ?_
            refine wpAnyH_take (i := 0) (v := .slice (some ⟨N + 2, 0, none⟩) cs.length cs.length) rfl (by kernel_rfl) (by kernel_rfl) (by kernel_rfl) (fun _ _ _ h => h) (Or.inl ⟨by rfl, fun w' hw' => by obtain ⟨s1, s2⟩ := hw'; go_simp⟩) ⟨b0, b2⟩ ?_
            refine wpAnyH_take (i := 1) (v := .int .i64 k) rfl (by kernel_rfl) (by kernel_rfl) (by kernel_rfl) (fun _ _ _ h => h) (Or.inl ⟨by rfl, fun w' hw' => by obtain ⟨s1, s2⟩ := hw'; go_simp⟩) ⟨b0, b2⟩ ?_
            refine wpAnyH_take (i := 2) (v := .slice (some ⟨N + 2, 0, none⟩) cs.length cs.length) rfl (by kernel_rfl) (by kernel_rfl) (by kernel_rfl) (fun _ _ _ h => h) (Or.inl ⟨by rfl, fun w' hw' => by obtain ⟨s1, s2⟩ := hw'; go_simp⟩) ⟨b0, b2⟩ ?_
            refine wpAnyH_take (i := 3) (v := .int .i64 k) rfl (by kernel_rfl) (by kernel_rfl) (by kernel_rfl) (fun _ _ _ h => h) (Or.inl ⟨by rfl, fun w' hw' => by obtain ⟨s1, s2⟩ := hw'; go_simp⟩) ⟨b0, b2⟩ ?_
            refine wpAnyH_take (i := 4) (v := .pointer (some ⟨N + 2, k, none⟩)) rfl (by kernel_rfl) (by kernel_rfl) (by kernel_rfl) (fun _ _ _ h => h) (Or.inl ⟨by rfl, fun w' hw' => by obtain ⟨s1, s2⟩ := hw'; go_simp⟩) ⟨b0, b2⟩ ?_
            refine wpAnyH_take (i := 6) (v := .int .i64 i) rfl (by kernel_rfl) (by kernel_rfl) (by kernel_rfl) (fun _ _ _ h => h) (Or.inl ⟨by rfl, fun w' hw' => by obtain ⟨s1, s2⟩ := hw'; go_simp⟩) ⟨b0, b2⟩ ?_
            have hlb2 : i * cs.length ≤ 64 * 64 := Nat.mul_le_mul (by omega) h64
            have HLB : Hid (l.length + 1 ≤ maxLen ∧ (l.length + 1) * 8 ≤ 140737488355328) := Lib.hid (by have h1 := HI.out.2.2.2.2.2.2.2.2.2.2.1; have h2 := HI.out.2.2.2.2.2.2.2.2.2.2.2; rw [← HR.out.2.2.2.2.2.2] at h1; unfold maxLen; exact ⟨by omega, by omega⟩)
            clear hlb2
            refine wpAnyH_two (i := 5) (k := 7) (by kernel_rfl) rfl rfl (by rfl) (by rfl) ?_ ?_
            · intro K hK
              go_simp
              refine hK _ _ ⟨b0, b2⟩ ?_
              clear hK K
              refine wpAnyH_step (i := 7) (by kernel_rfl) rfl (by rfl) ?_
              intro K hK
              go_simp
              refine hK _ _ ⟨blk_cell (by first | exact blk_alloc HB0.out _ | exact blk_drew (blk_alloc HB0.out _)) (i := 0) rfl, blk_cell (by first | exact blk_alloc HR.out.2.2.2.2.1 _ | exact blk_drew (blk_alloc HR.out.2.2.2.2.1 _)) (i := 0) rfl⟩ ?_
              clear hK K
              refine wpAnyH_step (i := 8) (by kernel_rfl) rfl (by rfl) ?_
              intro K hK
              refine wp_app _ (.tmp 55) (.tmp 57) 25 rfl 0 3 i0 (.int .i64 0) 1 8 Try.underlying25 HIN.out.1 HIN.out.2.1 HIN.out.2.2.1 HIN.out.2.2.2 rfl (by decide) (.slice Ak l.length ck) l.length (i64s l) rfl (by first | exact HR.out.2.2.2.1.alloc _ | exact own_drew (HR.out.2.2.2.1.alloc _) | exact World.ownsRow.alloc (own_drew HR.out.2.2.2.1) _) V.heap.size 1 1 [.int .i64 (i : Int)] 3 (0, 0) rfl (by first | exact blk_new V _ | exact blk_drew (blk_new V _)) rfl (by simp [Value.oneCell']) HLB.out.1 HLB.out.2 (Nat.zero_le _) ?_
              intro A9 C9 w9 ho9 hg9 hat9
              have q0 := blk_cell (blk_grown (by first | exact blk_alloc HR.out.1.w9 _ | exact blk_drew (blk_alloc HR.out.1.w9 _)) hg9 (HNE.out _ (by omega))) (i := 0) rfl
              have qb := blk_grown (by first | exact blk_alloc HR.out.2.1.blk _ | exact blk_drew (blk_alloc HR.out.2.1.blk _)) hg9 (HNE.out _ (by omega))
              have qx := blk_cell (blk_grown (by first | exact blk_alloc HR.out.2.2.2.2.1 _ | exact blk_drew (blk_alloc HR.out.2.2.2.2.1 _)) hg9 HNX.out) (i := 0) rfl
              have q3 := blk_cell qb (i := k) (show vs.toArray[k]? = some _ by simpa using HR.out.2.2.1)
              have q4 := blk_frozen qb k
              rw [HI.out.2.2.2.2.2.2.2.1] at q0
              have H9 := Lib.hid (And.intro ho9 (And.intro hg9 hat9))
              have HQ := Lib.hid (And.intro q0 qx)
              clear qb ho9 hg9 hat9
              refine hK _ _ ⟨q0, qx⟩ ?_
              clear hK K
              refine wpAnyH_step (i := 9) (by kernel_rfl) rfl (by rfl) ?_
              intro K hK
              go_simp
              refine hK _ _ ⟨HQ.out.1, HQ.out.2⟩ ?_
              clear hK K
              refine wpAnyH_step (i := 10) (by kernel_rfl) rfl (by rfl) ?_
              intro K hK
              go_simp
              refine hK _ _ ⟨(World.cell?_of_block (w := w9) (Below.heap_setCell w9 ⟨N + 2, k, none⟩ _ (N + 3) (by simp))).trans HQ.out.1, (World.cell?_of_block (w := w9) (Below.heap_setCell w9 ⟨N + 2, k, none⟩ _ wr.heap.size (by have := blk_lt HL.out.mem.w9; simp; omega))).trans HQ.out.2⟩ ?_
              clear hK K
              refine wpAnyH_done (by kernel_rfl) ?_ _
              have hfin := I1_next (B := w3.heap.size) HIW.out HB1.out.2 (by have := blk_lt HL.out.mem.w9; omega) HI.out.2.2.2.2.1 HI.out.2.2.2.2.2.1 (by rw [← HR.out.2.2.2.2.2.1]; exact HR.out.2.1) (y := x) (by rw [← HI.out.2.2.2.2.2.2.2.2.1]; exact HR.out.2.2.1) (l := l) (by rw [← HI.out.2.2.2.2.2.2.2.2.1]; exact HR.out.2.2.2.2.2.2) (by rw [← HR.out.2.2.2.2.2.1]; first | exact below_alloc (Below.refl _ _) _ | exact below_drew1 (below_alloc (Below.refl _ _) _)) (by rw [← HR.out.2.2.2.2.2.1]; first | exact KeepsOthers.alloc _ _ | exact (KeepsOthers.alloc _ _).trans (KeepsOthers.drew _)) H9.out.2.1 H9.out.1 (by simpa using H9.out.2.2)
              rw [← HI.out.2.2.2.2.2.2.2.2.1] at hfin
              exact hfin
            · intro K hK
              go_simp
              refine hK _ _ ⟨blk_cell (by first | exact blk_alloc HB0.out _ | exact blk_drew (blk_alloc HB0.out _)) (i := 0) rfl, blk_cell (by first | exact blk_alloc HR.out.2.2.2.2.1 _ | exact blk_drew (blk_alloc HR.out.2.2.2.2.1 _)) (i := 0) rfl⟩ ?_
              clear hK K
              refine wpAnyH_step (i := 5) (by kernel_rfl) rfl (by rfl) ?_
              intro K hK
              go_simp
              refine hK _ _ ⟨blk_cell (by first | exact blk_alloc HB0.out _ | exact blk_drew (blk_alloc HB0.out _)) (i := 0) rfl, blk_cell (by first | exact blk_alloc HR.out.2.2.2.2.1 _ | exact blk_drew (blk_alloc HR.out.2.2.2.2.1 _)) (i := 0) rfl⟩ ?_
              clear hK K
              refine wpAnyH_step (i := 8) (by kernel_rfl) rfl (by rfl) ?_
              intro K hK
              refine wp_app _ (.tmp 55) (.tmp 57) 25 rfl 0 3 i0 (.int .i64 0) 1 8 Try.underlying25 HIN.out.1 HIN.out.2.1 HIN.out.2.2.1 HIN.out.2.2.2 rfl (by decide) (.slice Ak l.length ck) l.length (i64s l) rfl (by first | exact HR.out.2.2.2.1.alloc _ | exact own_drew (HR.out.2.2.2.1.alloc _) | exact World.ownsRow.alloc (own_drew HR.out.2.2.2.1) _) V.heap.size 1 1 [.int .i64 (i : Int)] 3 (0, 0) rfl (by first | exact blk_new V _ | exact blk_drew (blk_new V _)) rfl (by simp [Value.oneCell']) HLB.out.1 HLB.out.2 (Nat.zero_le _) ?_
              intro A9 C9 w9 ho9 hg9 hat9
              have q0 := blk_cell (blk_grown (by first | exact blk_alloc HR.out.1.w9 _ | exact blk_drew (blk_alloc HR.out.1.w9 _)) hg9 (HNE.out _ (by omega))) (i := 0) rfl
              have qb := blk_grown (by first | exact blk_alloc HR.out.2.1.blk _ | exact blk_drew (blk_alloc HR.out.2.1.blk _)) hg9 (HNE.out _ (by omega))
              have qx := blk_cell (blk_grown (by first | exact blk_alloc HR.out.2.2.2.2.1 _ | exact blk_drew (blk_alloc HR.out.2.2.2.2.1 _)) hg9 HNX.out) (i := 0) rfl
              have q3 := blk_cell qb (i := k) (show vs.toArray[k]? = some _ by simpa using HR.out.2.2.1)
              have q4 := blk_frozen qb k
              rw [HI.out.2.2.2.2.2.2.2.1] at q0
              have H9 := Lib.hid (And.intro ho9 (And.intro hg9 hat9))
              have HQ := Lib.hid (And.intro q0 qx)
              clear qb ho9 hg9 hat9
              refine hK _ _ ⟨q0, qx⟩ ?_
              clear hK K
              refine wpAnyH_step (i := 9) (by kernel_rfl) rfl (by rfl) ?_
              intro K hK
              go_simp
              refine hK _ _ ⟨HQ.out.1, HQ.out.2⟩ ?_
              clear hK K
              refine wpAnyH_step (i := 10) (by kernel_rfl) rfl (by rfl) ?_
              intro K hK
              go_simp
              refine hK _ _ ⟨(World.cell?_of_block (w := w9) (Below.heap_setCell w9 ⟨N + 2, k, none⟩ _ (N + 3) (by simp))).trans HQ.out.1, (World.cell?_of_block (w := w9) (Below.heap_setCell w9 ⟨N + 2, k, none⟩ _ wr.heap.size (by have := blk_lt HL.out.mem.w9; simp; omega))).trans HQ.out.2⟩ ?_
              clear hK K
              refine wpAnyH_done (by kernel_rfl) ?_ _
              have hfin := I1_next (B := w3.heap.size) HIW.out HB1.out.2 (by have := blk_lt HL.out.mem.w9; omega) HI.out.2.2.2.2.1 HI.out.2.2.2.2.2.1 (by rw [← HR.out.2.2.2.2.2.1]; exact HR.out.2.1) (y := x) (by rw [← HI.out.2.2.2.2.2.2.2.2.1]; exact HR.out.2.2.1) (l := l) (by rw [← HI.out.2.2.2.2.2.2.2.2.1]; exact HR.out.2.2.2.2.2.2) (by rw [← HR.out.2.2.2.2.2.1]; first | exact below_alloc (Below.refl _ _) _ | exact below_drew1 (below_alloc (Below.refl _ _) _)) (by rw [← HR.out.2.2.2.2.2.1]; first | exact KeepsOthers.alloc _ _ | exact (KeepsOthers.alloc _ _).trans (KeepsOthers.drew _)) H9.out.2.1 H9.out.1 (by simpa using H9.out.2.2)
              rw [← HI.out.2.2.2.2.2.2.2.2.1] at hfin
              exact hfin
          case done =>
            rintro D xs W hD rfl ⟨hK1, hK2, hK3, hK4, _⟩ hK
            have HD := Lib.hid (And.intro hD (And.intro hK1 (And.intro hK2 (And.intro hK3 (And.intro hK4 hK)))))
            clear hD hK1 hK2 hK3 hK4 hK
            go_wp2_with fail
            refine ⟨⟨_, _, _, _, _, _, _, _, _, _, ⟨i + 1, hlt, by go_num, HD.out.2.1.ok (fun b q _ => q.1) (fun _ q => q), HD.out.2.2.2.1, HL.out.marks.cons HD.out.2.2.2.2.1 (by have := HD.out.1; have := HW3.out.2.2.1; omega) (by have := HD.out.1; have := HW3.out.2.2.1; have := blk_lt HL.out.mem.w9; omega) HD.out.2.2.2.2.2⟩, rfl⟩, ?_⟩
            simp [intOf]
            omega
          case stop =>
            rintro D c pre W _ _ h _
            exact h.elim
        · obtain rfl : i = cs.length := by omega
          have hlD : decide ((cs.length : Int) < (cs.length : Int)) = false := by simp
          obtain ⟨ws0, hws0⟩ : ∃ ws0, ws0 = (pst cs mk cs.length).1 := ⟨_, rfl⟩
          obtain ⟨bs, hbs⟩ : ∃ bs, bs = (pst cs mk cs.length).2 := ⟨_, rfl⟩
          have hwl0 : ws0.length = cs.length := by rw [hws0]; exact (pst_len cs mk _).1
          have hbl0 : bs.length = cs.length := by rw [hbs]; exact (pst_len cs mk _).2
          have hrng : inR cs.length bs := by rw [hbs]; exact pst_inR cs mk _ (Nat.le_refl _)
          obtain ⟨wE, rfl⟩ : ∃ wE : World, wE = wr := ⟨_, rfl⟩
          have hsE : N + 4 ≤ wE.heap.size := by have := blk_lt HL.out.mem.w9; omega
          have hK0 : K2 N w2 wE wE ws0 bs [] (.slice none 0 0) ds := ⟨by have := HL.out.mem; rw [← hws0, ← hbs] at this; exact this.ok (fun b h1 h2 => ⟨h1, h2⟩) fun b q => q.1, World.ownsRow_nil _ _ _ _, HL.out.below, HL.out.marks, Nat.le_refl _⟩
          have OB : Hid (∀ W W' : World, Below N w2 W → Only W W' (fun b => N + 4 ≤ b ∧ ∃ o : Obj, W.heap[b]? = some o ∧ o.isCells = false) → Below w.heap.size w W') := Lib.hid (fun W W' h1 h2 => by
            have hB2 : Below w.heap.size w w2 := HW1.out.1.trans ((below_alloc (Below.refl w1.heap.size w1) _).trans (HW2.out.1.below (by simp) fun b q => Nat.le_of_eq q.symm) |>.mono HW1.out.1.size)
            have := hB2.size
            have := HB1.out.2
            exact (hB2.trans (h1.mono (by omega))).trans (h2.below (by have := h1.size; omega) fun b q => by have := q.1; omega))
          have HP := Lib.hid (And.intro hws0 (And.intro hbs (And.intro hwl0 (And.intro hbl0 (And.intro hrng (And.intro hsE hK0))))))
          clear hws0 hbs hwl0 hbl0 hrng hsE hK0
          go_wp2_with fail
          go_loopw [12] (fun s12 W => ∃ (j : Nat) (os : List Nat) (ws : List Int), j ≤ cs.length ∧ kat bs ws0 j = some (os, ws) ∧ K2 N w2 wE W ws bs (froms cs os) s12 ds) (fun s12 _ => match s12 with | .slice _ n _ => cs.length - n | _ => 0)
          case atStart => exact ⟨0, [], ws0, Nat.zero_le _, rfl, HP.out.2.2.2.2.2.2⟩
          case round =>
            obtain ⟨j, os, ws, hj, hat, hK⟩ := hrel
            obtain ⟨ho1, ho2, ho3⟩ := kat_len _ _ hat
            dsimp only at ho1 ho2 ho3
            have hwl : ws.length = cs.length := ho2.trans HP.out.2.2.1
            have hfl : (froms cs os).length = j := by unfold froms; rw [List.length_map]; exact ho1
            obtain ⟨A12, c12, rfl⟩ := own_slice hK.row
            have a0 := blk_cell hK.mem.w8 (i := 0) rfl
            rw [hwl] at a0
            rw [hfl]
            have hN2 : N ≤ wr.heap.size := by have := hK.size; have := HP.out.2.2.2.2.2.1; omega
            have HK := Lib.hid (And.intro hat (And.intro hK (And.intro ho3 (And.intro hwl (And.intro hfl hN2)))))
            clear hat hK ho1 ho2 ho3 hwl hfl hN2
            by_cases hlt : j < cs.length
            · have hlD : decide ((j : Int) < (cs.length : Int)) = true := by simp; omega
              have hlN : decide (j < cs.length) = true := by simp; omega
              have hix := index_calls (some ⟨N, 0, none⟩) ws.length ws 0 (HK.out.2.1.mem.reads (by have := HK.out.2.2.2.1; omega)) (Nat.le_refl _) (by have := HK.out.2.2.2.1; omega)
              rw [HK.out.2.2.2.1] at hix
              cases hidx : idx ws 0 with
              | none =>
                rw [hidx] at hix
                simp only [idxI] at hix
                have HX := Lib.hid hidx
                clear hidx
                go_wp2_with fail
                refine hix.mono ?_
                rintro e w4 ⟨rfl, ⟨nd, rfl⟩⟩
                have hK4 : K2 N w2 wE (wr.drewN nd) ws bs (froms cs os) (.slice A12 (froms cs os).length c12) ds := HK.out.2.1.of (pw_below_drewN (Below.refl _ _) _) HK.out.2.2.2.2.2
                have HK4 := Lib.hid hK4
                clear hix hK4
                go_wp2_with fail
                refine leaves_marks ds _ HK4.out.marks ?_
                intro W' ho
                refine ⟨_, results_tmp3 rfl _ _ _, ?_⟩
                have hB := OB.out _ _ HK4.out.below ho
                have hfin : OrdPost w l0 (.returned (.tuple #[.slice none 0 0, .bool false, .int .i64 0])) W' := OrdPost.none2 HRD.out.1 HM.out.1 (ordB_none hlt (by rw [← HP.out.1, ← HP.out.2.1]; exact HK.out.1) HX.out) hB
                exact hfin
              | some i =>
                rw [hidx] at hix
                simp only [idxI] at hix
                have HX := Lib.hid hidx
                have hic : i < cs.length := by have := (idx_some hidx).1; have := HK.out.2.2.2.1; omega
                clear hidx
                go_wp2_with fail
                refine hix.mono ?_
                rintro e w4 ⟨rfl, ⟨nd, rfl⟩⟩
                have hK4 : K2 N w2 wE (wr.drewN nd) ws bs (froms cs os) (.slice A12 (froms cs os).length c12) ds := HK.out.2.1.of (pw_below_drewN (Below.refl _ _) _) HK.out.2.2.2.2.2
                have HK4 := Lib.hid hK4
                clear hix hK4
                have hiD : decide ((i : Int) < (cs.length : Int)) = true := by simp; omega
                have c8 := blk_cell HK4.out.mem.g8 (i := i) (show (i64s ws).toArray[i]? = some (.int .i64 (ws.getD i 0)) by have := HK.out.2.2.2.1; simp [i64s, List.getElem?_eq_getElem (show i < ws.length by omega)])
                have f8 := blk_frozen HK4.out.mem.g8 i
                have a9 := blk_cell HK4.out.mem.w9 (i := 0) rfl
                rw [HP.out.2.2.2.1] at a9
                obtain ⟨vs, hR⟩ := HK4.out.mem.g9
                obtain ⟨v, hv⟩ : ∃ v, vs[i]? = some v := ⟨_, List.getElem?_eq_getElem (by rw [hR.len, HP.out.2.2.2.1]; exact hic)⟩
                have hrow := hR.row i v (bs.getD i []) hv (by rw [List.getD_eq_getElem?_getD, List.getElem?_eq_getElem (by rw [HP.out.2.2.2.1]; exact hic)]; rfl)
                obtain ⟨l, hll⟩ : ∃ l, l = bs.getD i [] := ⟨_, rfl⟩
                rw [← hll] at hrow
                have hlb : l.length ≤ 4096 := by
                  have h1 := pst_bound cs mk cs.length i
                  have h2 : cs.length * cs.length ≤ 64 * 64 := Nat.mul_le_mul h64 h64
                  rw [hll, HP.out.2.1]
                  omega
                obtain ⟨Ai, ci, rfl⟩ := own_slice hrow
                have b3 := blk_cell hR.blk (i := i) (show vs.toArray[i]? = some _ by simpa using hv)
                have HL3 := Lib.hid (And.intro hR (And.intro hv (And.intro hrow hll)))
                clear hR hv hrow hll
                go_wp2_with fail
                obtain ⟨wo, rfl⟩ : ∃ wo : World, wo = wr := ⟨_, rfl⟩
                clear a0 c8 f8 a9 b3
                go_loopw [78] (fun s78 W => ∃ q : Nat, q ≤ l.length ∧ s78 = .int .i64 q ∧ K2 N w2 wE W ((l.take q).foldl dec1 (ws.set i (-1))) bs (froms cs os) (.slice A12 (froms cs os).length c12) ds ∧ RowsAt W (N + 2) bs (fun b => N + 4 ≤ b ∧ b < wE.heap.size) vs) (fun s78 _ => l.length - (intOf s78).toNat)
                case atStart =>
                  refine ⟨0, Nat.zero_le _, rfl, HK4.out.setW (by have := HP.out.2.2.2.2.2.1; omega) i (-1), HL3.out.1.keep fun b hb _ _ => Below.heap_setCell (wo.drewN nd) ⟨N, i, none⟩ _ b ?_⟩
                  rcases hb with rfl | q
                  · simp
                  · have := q.1; simp; omega
                case round =>
                  obtain ⟨q, hq, rfl, hKq, hRq⟩ := hrel
                  obtain ⟨wq, hwq⟩ : ∃ wq, wq = (l.take q).foldl dec1 (ws.set i (-1)) := ⟨_, rfl⟩
                  rw [← hwq] at hKq
                  have hwql : wq.length = cs.length := by rw [hwq, dec_len, List.length_set]; exact HK.out.2.2.2.1
                  have HQ := Lib.hid (And.intro hKq (And.intro hRq (And.intro hwq hwql)))
                  clear hKq hRq hwq hwql
                  by_cases hql : q < l.length
                  · have hqD : decide ((q : Int) < (l.length : Int)) = true := by simp; omega
                    have hqN : decide (q < l.length) = true := by simp; omega
                    obtain ⟨x, hx⟩ : ∃ x, l[q]? = some x := ⟨_, List.getElem?_eq_getElem hql⟩
                    have hxr := HP.out.2.2.2.2.1 i x (by rw [← HL3.out.2.2.2]; exact List.mem_of_getElem? hx)
                    obtain ⟨k, rfl⟩ : ∃ k : Nat, x = k := ⟨x.toNat, by omega⟩
                    have hkl : k < cs.length := by omega
                    have hro := HQ.out.2.1.row i _ l HL3.out.2.1 (by rw [HL3.out.2.2.2, List.getD_eq_getElem?_getD, List.getElem?_eq_getElem (by rw [HP.out.2.2.2.1]; exact hic)]; rfl)
                    obtain ⟨gi, ci2, hvi, hcell, _, _⟩ := own_cell hro (i := q) (show (i64s l)[q]? = some (.int .i64 (k : Nat)) by simp [i64s, hx])
                    injection hvi with h1 _ h3
                    subst h1
                    subst h3
                    have a0 := blk_cell HQ.out.1.mem.w8 (i := 0) rfl
                    rw [HQ.out.2.2.2] at a0
                    have c8 := blk_cell HQ.out.1.mem.g8 (i := k) (show (i64s wq).toArray[k]? = some (.int .i64 (wq.getD k 0)) by have := HQ.out.2.2.2; simp [i64s, List.getElem?_eq_getElem (show k < wq.length by omega)])
                    have f8 := blk_frozen HQ.out.1.mem.g8 k
                    have hkD : decide ((k : Int) < (cs.length : Int)) = true := by simp; omega
                    have HX2 := Lib.hid hx
                    clear hx hxr hro
                    go_wp2_with fail
                    go_roundw
                    case rel =>
                      refine ⟨q + 1, by omega, by go_num, ?_, HQ.out.2.1.keep fun b hb _ _ => Below.heap_setCell wr ⟨N, k, none⟩ _ b ?_⟩
                      · rw [List.take_add_one, HX2.out, Option.toList_some, List.foldl_append, ← HQ.out.2.2.1]
                        have := HQ.out.1.setW (by have := HP.out.2.2.2.2.2.1; omega) k (wrap64 (wq.getD k 0 - 1))
                        simpa [dec1] using this
                      · rcases hb with rfl | q
                        · simp
                        · have := q.1; simp; omega
                    case measure => simp [intOf]; omega
                  · obtain rfl : q = l.length := by omega
                    have hqD : decide ((l.length : Int) < (l.length : Int)) = false := by simp
                    obtain ⟨ad, E7, e7, E8, e8, hA, y0, _⟩ := at_T70 HBK.out.row i (by omega) (by omega)
                    subst hA
                    simp only [Int.toNat_natCast] at y0
                    have hbw : Below w2.heap.size w2 wr := by have := HQ.out.1.below; rw [HB1.out.2] at this; exact this
                    replace y0 := (hbw.cell (World.block_lt_of_cell? w2 _ y0)).trans y0
                    clear hbw
                    have hu := Try.underlying65
                    have hrow9 : wr.ownsRow wE.heap.size 3 1 (.slice A12 j c12) j (i64s (froms cs os)) := by
                      have := HQ.out.1.row
                      rw [HK.out.2.2.2.2.1] at this
                      exact this
                    have HR9 := Lib.hid hrow9
                    obtain ⟨i0, hi0, hz0, hz1, hz2⟩ := info_parts info3
                    have HIN := Lib.hid (And.intro hi0 (And.intro hz0 (And.intro hz1 hz2)))
                    have HSZ := Lib.hid HQ.out.1.size
                    clear hi0 hz0 hz1 hz2 hrow9
                    go_wp2_with (refine wpl_app _ rfl (.tmp 89) (.tmp 95) 25 rfl wE.heap.size 3 i0 (.int .i64 0) 1 8 Try.underlying25 HIN.out.1 HIN.out.2.1 HIN.out.2.2.1 HIN.out.2.2.2 rfl (by decide) (.slice A12 j c12) j (i64s (froms cs os)) rfl (HR9.out.alloc _) wr.heap.size 1 1 [.int .i64 (rd_T70 cs i).f0] 3 (0, 0) rfl (blk_new wr _) rfl (by simp [Value.oneCell']) (by unfold maxLen; omega) (by omega) (by have := HSZ.out; simp; omega) ?_; intro A9 C9 w9 ho9 hg9 hat9; have H9 := Lib.hid (And.intro ho9 hg9); clear ho9 hg9 hat9)
                    go_roundw
                    case rel =>
                      refine ⟨j + 1, os ++ [i], l.foldl dec1 (ws.set i (-1)), hlt, ?_, ?_⟩
                      · show (kat bs ws0 j).bind (kstep bs) = _
                        rw [HK.out.1]
                        show kstep bs (os, ws) = _
                        unfold kstep
                        rw [HX.out, HL3.out.2.2.2]
                        rfl
                      · have h1 := HQ.out.1
                        rw [HQ.out.2.2.1, List.take_length] at h1
                        have h2 := h1.app (W1 := wr.alloc (.cells #[.int .i64 (rd_T70 cs i).f0] 3)) (W2 := w9) (x := (rd_T70 cs i).f0) (A := A9) (C := C9) HP.out.2.2.2.2.2.1 (below_alloc (Below.refl _ _) _) (by have := H9.out.2; rw [HK.out.2.2.2.2.1]; exact this) (by have := H9.out.1; rw [HK.out.2.2.2.2.1]; exact this)
                        rw [HK.out.2.2.2.2.1] at h2
                        have h3 : froms cs (os ++ [i]) = froms cs os ++ [(rd_T70 cs i).f0] := by simp [froms]
                        rw [h3]
                        exact h2
                    case measure => show cs.length - (j + 1) < cs.length - j; omega
            · obtain rfl : j = cs.length := by omega
              have hlD : decide ((cs.length : Int) < (cs.length : Int)) = false := by simp
              go_wp2_with fail
              refine leaves_marks ds _ HK.out.2.1.marks ?_
              intro W' ho
              refine ⟨_, results_tmp3 rfl _ _ _, ?_⟩
              have hB := OB.out _ _ HK.out.2.1.below ho
              have hfin : OrdPost w l0 (.returned (.tuple #[.slice A12 cs.length c12, .bool true, .int .i64 0])) W' := OrdPost.yes HRD.out.1 HM.out.1 (os := os) (by unfold ordB; rw [← HP.out.1, ← HP.out.2.1, HK.out.1]; rfl) hB (by
                have h1 := HK.out.2.1.row
                rw [HK.out.2.2.2.2.1] at h1 ⊢
                exact own_marks h1 ho (by have := HP.out.2.2.2.2.2.1; have := HB1.out.2; have := HW1.out.1.size; have := HW2.out.1.size; simp at this; omega))
              exact hfin
end Go.Proofs.Ytfahoomkpammiaa
namespace Go.Proofs.Ytfahoomkpammiaa
open Go.RowKit Go.MapKept Go.Proofs.YtfahoomkpammiaaW.PrintWords Go.Proofs.YtfahoomkpammiaaW.PrintLast Go.Proofs.YtfahoomkpammiaaW.PrintMore Go.Proofs.Ytfahoomkpammiaa.PHistOrders
open Classical in
/-- what Check answers -/
noncomputable def checkP (l0 : List S45) : Int := if readB l0 = none then 230 else 0
def rcheckP (l0 : List S45) : Int := if (refB l0).isNone then 230 else 0
def livesA : S40 := ⟨1, 1, ⟨#[97]⟩⟩
def livesL : List S45 := [⟨0, true, livesA, z43⟩, ⟨1, true, livesA, z43⟩, ⟨0, false, livesA, z43⟩, ⟨1, false, livesA, ⟨true, ⟨#[]⟩, [], []⟩⟩]
def livesC : List S70 := [⟨0, 2, livesA, z43⟩, ⟨1, 3, livesA, ⟨true, ⟨#[]⟩, [], []⟩⟩]
theorem lives_read : readB livesL = some livesC := by
  have h : ∃ o, rat livesL livesL.length = some ⟨livesC, o⟩ ∧ ∀ k, o k = none := by
    refine ⟨upd1 (upd1 (upd1 (upd1 (fun _ => none) 0 (some 0)) 1 (some 1)) 0 none) 1 none, ?_, fun k => ?_⟩
    · kernel_rfl
    · unfold upd1
      dsimp only
      split
      · rfl
      · split
        · rfl
        · first | rfl | (split <;> first | rfl | (exfalso; omega) | (split <;> first | rfl | (exfalso; omega)))
  obtain ⟨o, h1, h2⟩ := h
  exact readB_yes h1 ⟨h2, by show livesC.length ≤ 64; decide⟩
theorem lives_ord : ordP livesL = some (some [1, 0]) := by
  unfold ordP
  rw [lives_read]
  show some ((madeB livesC).bind fun mk => (ordB livesC mk).map (froms livesC)) = some (some [1, 0])
  kernel_rfl
theorem lives_kind (W : World) (g : Nat) (hg : W.heap[g]? = some (.cells #[.int .i64 0, .bool true, .int .i64 1, .int .i64 1, .string ⟨#[97]⟩, .bool false, .string ⟨#[]⟩, .slice none 0 0, .slice none 0 0, .int .i64 1, .bool true, .int .i64 1, .int .i64 1, .string ⟨#[97]⟩, .bool false, .string ⟨#[]⟩, .slice none 0 0, .slice none 0 0,
      .int .i64 0, .bool false, .int .i64 1, .int .i64 1, .string ⟨#[97]⟩, .bool false, .string ⟨#[]⟩, .slice none 0 0, .slice none 0 0, .int .i64 1, .bool false, .int .i64 1, .int .i64 1, .string ⟨#[97]⟩, .bool true, .string ⟨#[]⟩, .slice none 0 0, .slice none 0 0] 45 (0, 0))) :
    Kd.C k45 W (some ⟨g, 0, none⟩) 4 livesL := by
  have h : OwnRow (k45.K W) 45 9 W g (.slice (some ⟨g, 0, none⟩) 4 4) livesL := by
    refine ⟨_, ⟨?_, .inr ⟨g, 4, _, rfl, Nat.le_refl _, hg, by decide, by decide, rfl, rfl⟩⟩, rfl, ?_⟩
    · rfl
    · have hk : ∀ m : S45, m.f3.f2 = [] → m.f3.f3 = [] → k45.K W m [.int .i64 m.f0, .bool m.f1, .int .i64 m.f2.f0, .int .i64 m.f2.f1, .string m.f2.f2, .bool m.f3.f0, .string m.f3.f1, .slice none 0 0, .slice none 0 0] := by
        rintro ⟨a, b, c, ⟨d, e, f, l⟩⟩ h1 h2
        cases h1
        cases h2
        exact k45_mk W _ (A7 := none) (c7 := 0) (Nat.le_refl _) (Kd.C_nil _ _) (A8 := none) (c8 := 0) (Nat.le_refl _) (Kd.C_nil _ _)
      intro j q hq
      match j, hq with
      | 0, hq => cases hq; exact hk _ rfl rfl
      | 1, hq => cases hq; exact hk _ rfl rfl
      | 2, hq => cases hq; exact hk _ rfl rfl
      | 3, hq => cases hq; exact hk _ rfl rfl
      | j + 4, hq => cases hq
  obtain ⟨A, c, he, _, hC⟩ := h.reads
  cases he
  exact hC
set_option maxRecDepth 100000 in
set_option maxHeartbeats 1000000 in
theorem lives_walk (w : World) : Calls Try.prog 9 #[] w fun e w' => e = .returned (.bool true) ∧ Below w.heap.size w w' := by
  go_enter Try.func9, Try.ntmps9
  go_wp2_with fail
  obtain ⟨W, hW⟩ : ∃ W, W = ((w.alloc (.cells #[.int .i64 1, .int .i64 1, .string ⟨#[97]⟩] 40)).alloc (.cells #[.int .i64 0, .bool true, .int .i64 1, .int .i64 1, .string ⟨#[97]⟩, .bool false, .string ⟨#[]⟩, .slice none 0 0, .slice none 0 0, .int .i64 1, .bool true, .int .i64 1, .int .i64 1, .string ⟨#[97]⟩, .bool false, .string ⟨#[]⟩, .slice none 0 0, .slice none 0 0,
      .int .i64 0, .bool false, .int .i64 1, .int .i64 1, .string ⟨#[97]⟩, .bool false, .string ⟨#[]⟩, .slice none 0 0, .slice none 0 0, .int .i64 1, .bool false, .int .i64 1, .int .i64 1, .string ⟨#[97]⟩, .bool true, .string ⟨#[]⟩, .slice none 0 0, .slice none 0 0] 45)) := ⟨_, rfl⟩
  rw [← hW]
  have hC : Kd.C k45 W (some ⟨w.heap.size + 1, 0, none⟩) 4 livesL := lives_kind W _ (by have := new_blk (w := w.alloc (.cells #[.int .i64 1, .int .i64 1, .string ⟨#[97]⟩] 40)) (.cells #[.int .i64 0, .bool true, .int .i64 1, .int .i64 1, .string ⟨#[97]⟩, .bool false, .string ⟨#[]⟩, .slice none 0 0, .slice none 0 0, .int .i64 1, .bool true, .int .i64 1, .int .i64 1, .string ⟨#[97]⟩, .bool false, .string ⟨#[]⟩, .slice none 0 0, .slice none 0 0,
      .int .i64 0, .bool false, .int .i64 1, .int .i64 1, .string ⟨#[97]⟩, .bool false, .string ⟨#[]⟩, .slice none 0 0, .slice none 0 0, .int .i64 1, .bool false, .int .i64 1, .int .i64 1, .string ⟨#[97]⟩, .bool true, .string ⟨#[]⟩, .slice none 0 0, .slice none 0 0] 45); rw [← hW] at this; simpa using this)
  have hB : Below w.heap.size w W := by rw [hW]; exact below_alloc (below_alloc (Below.refl _ _) _) _
  have HB := Lib.hid hB
  refine (order_walk W _ 4 livesL hC (by decide) (by decide)).mono ?_
  clear hC hB hW
  rintro e w1 ⟨v, b, x, rfl, hb, ho⟩
  rw [lives_ord] at ho
  obtain ⟨hrow, rfl, rfl⟩ := ho
  have HB1 := Lib.hid (below_step HB.out hb)
  obtain ⟨A3, c3, rfl⟩ : ∃ A c, v = .slice A 2 c := by
    obtain ⟨A, c, rfl⟩ := own_slice hrow
    exact ⟨A, c, rfl⟩
  obtain ⟨k3, l3⟩ := own_reads1 (h1 := fun _ => rfl) (xs := [1, 0]) hrow
  have HK := Lib.hid (And.intro k3 l3)
  clear k3 l3 hrow hb
  go_wp2_with fail
  have h2 : (w1.alloc (.cells #[.int .i64 1, .int .i64 0] 3)).ownsRow w1.heap.size 3 1 (.slice (some ⟨w1.heap.size, 0, none⟩) 2 2) 2 ([(1 : Int), 0].map (Value.int .i64)) :=
    ⟨rfl, .inr ⟨_, 2, _, rfl, Nat.le_refl _, new_blk _, by decide, by decide, rfl, rfl⟩⟩
  obtain ⟨k4, l4⟩ := own_reads1 (h1 := fun _ => rfl) (xs := [(1 : Int), 0]) h2
  refine (fugueref00_EqInts.calls 5 A3 c3 [1, 0] (some ⟨w1.heap.size, 0, none⟩) 2 [1, 0] true _ (Kd.C_below HK.out.1 (below_alloc (Below.refl _ _) _)) HK.out.2 k4 l4 (by kernel_rfl)).mono ?_
  rintro e w2 ⟨rfl, hb⟩
  have HB2 : Hid (Below w.heap.size w w2) := Lib.hid (below_step (below_alloc HB1.out _) hb.below)
  clear hb h2 k4 l4
  go_wp2_with fail
  go_ret
  exact ⟨rfl, HB2.out⟩
theorem place_one {K : List Int} {key : Int} {a b : Nat} (h : AtPlace K key a) (k : AtPlace K key b) : a = b := by
  rcases Nat.lt_trichotomy a b with q | q | q
  · have h1 := k.low a q
    have h2 := h.high a (Nat.le_refl _) (by have := k.le; omega)
    omega
  · exact q
  · have h1 := h.low b q
    have h2 := k.high b (Nat.le_refl _) (by have := h.le; omega)
    omega
theorem place_ex {K : List Int} (hr : Rising K) (key : Int) : ∃ lo, AtPlace K key lo := by
  have : ∀ n, n ≤ K.length → (∀ j, n ≤ j → j < K.length → key ≤ K.getD j 0) → ∃ lo, AtPlace K key lo := by
    intro n
    induction n with
    | zero => intro h1 h2; exact ⟨0, h1, fun j q => by omega, h2⟩
    | succ n ih =>
      intro h1 h2
      by_cases q : K.getD n 0 < key
      · refine ⟨n + 1, h1, fun j hj => ?_, h2⟩
        rcases Nat.lt_or_ge j n with k | k
        · have := hr j n k (by omega); omega
        · obtain rfl : j = n := by omega
          exact q
      · exact ih (by omega) fun j a b => by
          rcases Nat.eq_or_lt_of_le a with k | k
          · subst k; omega
          · exact h2 j k b
  exact this K.length (Nat.le_refl _) fun j a b => by omega
theorem rising_holed {K : List Int} {key : Int} {lo : Nat} (hr : Rising K) (h : AtPlace K key lo) (hf : foundB K key lo = false) : Rising (holed K lo key) := by
  have hat : ∀ i, i ≤ K.length → (holed K lo key).getD i 0 = if i < lo then K.getD i 0 else if i = lo then key else K.getD (i - 1) 0 := fun i hi => by
    unfold holed
    simp only [List.getD_eq_getElem?_getD]
    have hle := h.le
    by_cases q : i < lo
    · rw [if_pos q, List.getElem?_append_left (by simp; omega), List.getElem?_take, if_pos q]
    · rw [if_neg q, List.getElem?_append_right (by simp; omega), List.length_take, Nat.min_eq_left hle]
      by_cases q2 : i = lo
      · rw [if_pos q2, q2, Nat.sub_self]
        rfl
      · rw [if_neg q2, show i - lo = (i - 1 - lo) + 1 by omega, List.getElem?_cons_succ, List.getElem?_drop, show lo + (i - 1 - lo) = i - 1 by omega]
  have hhi : ∀ j, lo ≤ j → j < K.length → key < K.getD j 0 := fun j a b => by
    have h1 := h.high j a b
    rcases Nat.eq_or_lt_of_le a with q | q
    · subst q
      unfold foundB at hf
      rw [decide_eq_true b, Bool.true_and] at hf
      have := of_decide_eq_false hf
      omega
    · have h2 := h.high lo (Nat.le_refl _) (by omega)
      have h3 := hr lo j q b
      omega
  intro i j hij hj
  have hle := h.le
  rw [holed_len hle] at hj
  rw [hat i (by omega), hat j (by omega)]
  by_cases a : i < lo
  · rw [if_pos a]
    have hi := h.low i a
    by_cases b : j < lo
    · rw [if_pos b]; exact hr i j hij (by omega)
    · rw [if_neg b]
      by_cases c : j = lo
      · rw [if_pos c]; exact hi
      · rw [if_neg c]
        have := hhi (j - 1) (by omega) (by omega)
        omega
  · rw [if_neg a, if_neg (show ¬ j < lo by omega), if_neg (show ¬ j = lo by omega)]
    by_cases b : i = lo
    · rw [if_pos b]; exact hhi (j - 1) (by omega) (by omega)
    · rw [if_neg b]; exact hr (i - 1) (j - 1) (by omega) (by omega)
/-- what a call of the plain map does -/
def DoIs (K : List Int) (V : List ByteArray) (o : S40) (K' : List Int) (V' : List ByteArray) (r : S43) : Prop :=
  if o.f0 = 1 then ∃ lo, AtPlace K o.f1 lo ∧ if foundB K o.f1 lo = true then K' = K ∧ V' = V ∧ r = z43 else K' = holed K lo o.f1 ∧ V' = holed V lo o.f2 ∧ r = ⟨true, ⟨#[]⟩, [], []⟩
  else if o.f0 = 2 then ∃ lo, AtPlace K o.f1 lo ∧ K' = K ∧ V' = V ∧ r = if foundB K o.f1 lo = true then ⟨true, V.getD lo ⟨#[]⟩, [], []⟩ else z43
  else K' = K ∧ V' = V ∧ r = ⟨true, ⟨#[]⟩, K, V⟩
def DoneBy (w : World) (t base : Nat) (K : List Int) (V : List ByteArray) (vk vv : Value) (o : S40) (e : Ending) (w' : World) : Prop :=
  ∃ K' V' vk' vv' r A2 c2 A3 c3, DoIs K V o K' V' r ∧ e = .returned (.agg #[.bool r.f0, .string r.f1, .slice A2 r.f2.length c2, .slice A3 r.f3.length c3]) ∧ r.f2.length ≤ c2 ∧ (Kd.int .i64).C w' A2 r.f2.length r.f2 ∧
    r.f3.length ≤ c3 ∧ Kd.string.C w' A3 r.f3.length r.f3 ∧ RTab w' t base K' V' vk' vv' ∧ Rising K' ∧ Only w w' (TabS t vk vv)
theorem set4 {w : World} {q : Nat} {x y z u : Value} {t : TypeId} (hb : w.heap[q]? = some (.cells #[x, y, z, u] t (0, 0))) (a b c d : Value) :
    ((((w.setCell ⟨q, 0, none⟩ a).setCell ⟨q, 1, none⟩ b).setCell ⟨q, 2, none⟩ c).setCell ⟨q, 3, none⟩ d).heap[q]? = some (.cells #[a, b, c, d] t (0, 0)) := by
  have h1 := blk_set hb 0 a
  have h2 := blk_set h1 1 b
  have h3 := blk_set h2 2 c
  exact blk_set h3 3 d
theorem RTab.only {W W1 : World} {t base : Nat} {K : List Int} {V : List ByteArray} {vk vv : Value} (h : RTab W t base K V vk vv) {S : Nat → Prop} (ho : Only W W1 S) (hs : ∀ b, S b → ¬ TabS t vk vv b) : RTab W1 t base K V vk vv :=
  ⟨(ho.block t (blk_lt h.blk) fun q => hs t q (.inl rfl)).trans h.blk, row_move h.keys fun g e => ho.block g (own_lt h.keys e) fun q => hs g q (.inr (.inl e)), row_move h.vals fun g e => ho.block g (own_lt h.vals e) fun q => hs g q (.inr (.inr e)), h.out, h.apart, h.len, h.small⟩
theorem RTab.lt {W : World} {t base : Nat} {K : List Int} {V : List ByteArray} {vk vv : Value} (h : RTab W t base K V vk vv) {b : Nat} (hb : TabS t vk vv b) : b < W.heap.size := by
  rcases hb with rfl | hb | hb
  · exact blk_lt h.blk
  · exact own_lt h.keys hb
  · exact own_lt h.vals hb
theorem RRaw.tab {W : World} {t base : Nat} {K : List Int} {V : List ByteArray} {vk vv : Value} (h : RRaw W t base K V vk vv) (hl : K.length = V.length) (hs : K.length ≤ 1099511627776) : RTab W t base K V vk vv := ⟨h.blk, h.keys, h.vals, h.out, h.apart, hl, hs⟩
/-- behind the four stores of a reply -/
def stored4 (w : World) (q : Nat) (a b c d : Value) : World := (((w.setCell ⟨q, 0, none⟩ a).setCell ⟨q, 1, none⟩ b).setCell ⟨q, 2, none⟩ c).setCell ⟨q, 3, none⟩ d
theorem stored4_only (w : World) (q : Nat) (a b c d : Value) : Only w (stored4 w q a b c d) (fun x => x = q) :=
  ((((Only.refl w fun x => x = q).setCell (p := ⟨q, 0, none⟩) (.inl rfl) a).setCell (p := ⟨q, 1, none⟩) (.inl rfl) b).setCell (p := ⟨q, 2, none⟩) (.inl rfl) c).setCell (p := ⟨q, 3, none⟩) (.inl rfl) d
theorem done_mk {w w1 : World} {t base q : Nat} {K : List Int} {V : List ByteArray} {vk vv : Value} {o : S40} {K' : List Int} {V' : List ByteArray} {vk' vv' : Value} {r : S43} {A2 : Option Addr} {c2 : Nat} {A3 : Option Addr} {c3 : Nat} (a b c d : Value)
    (hd : DoIs K V o K' V' r) (l2 : r.f2.length ≤ c2) (g2 : (Kd.int .i64).C (stored4 w1 q a b c d) A2 r.f2.length r.f2) (l3 : r.f3.length ≤ c3) (g3 : Kd.string.C (stored4 w1 q a b c d) A3 r.f3.length r.f3)
    (ht : RTab w1 t base K' V' vk' vv') (hr : Rising K') (ho : Only w w1 (TabS t vk vv)) (hq : w.heap.size ≤ q) (hqt : ¬ TabS t vk' vv' q) :
    DoneBy w t base K V vk vv o (.returned (.agg #[.bool r.f0, .string r.f1, .slice A2 r.f2.length c2, .slice A3 r.f3.length c3])) (stored4 w1 q a b c d) :=
  ⟨K', V', vk', vv', r, A2, c2, A3, c3, hd, rfl, l2, g2, l3, g3, ht.only (stored4_only w1 q a b c d) (fun b e => by subst e; exact hqt), hr, ho.trans (stored4_only w1 q a b c d) fun b e => .inr (by subst e; exact hq)⟩
def PubIs (K : List Int) (V : List ByteArray) (key : Int) (val : ByteArray) (lo : Nat) (K' : List Int) (V' : List ByteArray) : Prop :=
  AtPlace K key lo ∧ if foundB K key lo = true then K' = K ∧ V' = V else K' = holed K lo key ∧ V' = holed V lo val
theorem rpub_any {w : World} {t base : Nat} {K : List Int} {V : List ByteArray} {vk vv : Value} (h : RTab w t base K V vk vv) (hr : Rising K) (hsm : K.length < 1099511627776) (hbs : base ≤ w.heap.size) (key : Int) (val : ByteArray) :
    Calls Try.prog 52 #[.pointer (some ⟨t, 0, none⟩), .int .i64 key, .string val] w fun e w' => ∃ K' V' vk' vv' lo, PubIs K V key val lo K' V' ∧ e = .returned (.bool (!foundB K key lo)) ∧ RTab w' t base K' V' vk' vv' ∧ Rising K' ∧ Only w w' (TabS t vk vv) ∧
      ∀ b, TabS t vk' vv' b → TabS t vk vv b ∨ w.heap.size ≤ b := by
  obtain ⟨lo, hlo⟩ := place_ex hr key
  have hno : ∀ l, AtPlace K key l → foundB K key l = foundB K key lo := fun l hl => by rw [place_one hl hlo]
  cases hf : foundB K key lo with
  | true =>
    refine (rpub_old h hr key val fun l hl => (hno l hl).trans hf).mono fun e w' ⟨he, n, hw⟩ => ?_
    subst hw
    exact ⟨K, V, vk, vv, lo, ⟨hlo, by rw [if_pos hf]; exact ⟨rfl, rfl⟩⟩, by rw [he, hf]; rfl, h.drew n, hr, (Only.refl _ _).drewN n, fun b q => .inl q⟩
  | false =>
    refine (rpub_new h hr hsm hbs key val fun l hl => (hno l hl).trans hf).mono fun e w' ⟨l, vk', vv', hl, he, hR, ho, hn⟩ => ?_
    obtain rfl := place_one hl hlo
    have hle := hl.le
    exact ⟨_, _, vk', vv', l, ⟨hl, by rw [if_neg (by rw [hf]; simp)]; exact ⟨rfl, rfl⟩⟩, by rw [he, hf]; rfl, hR.tab (by rw [holed_len hle, holed_len (by rw [← h.len]; exact hle), h.len]) (by rw [holed_len hle]; omega), rising_holed hr hl hf, ho, hn⟩
set_option maxRecDepth 100000 in
set_option maxHeartbeats 2000000 in
theorem rdo_pub {w : World} {t base : Nat} {K : List Int} {V : List ByteArray} {vk vv : Value} (h : RTab w t base K V vk vv) (hr : Rising K) (hsm : K.length < 1099511627776) (hbs : base ≤ w.heap.size) (o : S40) (ho : o.f0 = 1) :
    Calls Try.prog 37 #[.pointer (some ⟨t, 0, none⟩), .agg #[.int .i64 o.f0, .int .i64 o.f1, .string o.f2]] w fun e w' => DoneBy w t base K V vk vv o e w' := by
  have hu := Try.underlying40
  have hu2 := Try.underlying43
  have h2 : RTab ((w.alloc (.cells #[.int .i64 1, .int .i64 o.f1, .string o.f2] 40)).alloc (.cells #[.bool false, .string ⟨#[]⟩, .slice none 0 0, .slice none 0 0] 43)) t base K V vk vv := (h.below (below_alloc (Below.refl _ _) _)).below (below_alloc (Below.refl _ _) _)
  have hbl : Below w.heap.size w ((w.alloc (.cells #[.int .i64 1, .int .i64 o.f1, .string o.f2] 40)).alloc (.cells #[.bool false, .string ⟨#[]⟩, .slice none 0 0, .slice none 0 0] 43)) := below_alloc (below_alloc (Below.refl _ _) _) _
  have hq := blk_new (w.alloc (.cells #[.int .i64 1, .int .i64 o.f1, .string o.f2] 40)) (.cells #[.bool false, .string ⟨#[]⟩, .slice none 0 0, .slice none 0 0] 43)
  simp only [World.size_alloc] at hq
  have hc := rpub_any h2 hr hsm (by simp; omega) o.f1 o.f2
  have H := Lib.hid (And.intro h (And.intro hbl (And.intro hq ho)))
  rw [ho]
  clear h hr hbs h2 hbl hq hsm ho
  go_enter Try.func37, Try.ntmps37
  go_wp2_with fail
  refine hc.mono ?_
  rintro e w1 ⟨K', V', vk', vv', lo, hp, rfl, ht, hr', hO, hnew⟩
  have hq1 := hO.blk H.out.2.2.1 (fun q => by have := H.out.1.lt q; omega)
  have y0 := blk_cell hq1 (i := 0) rfl
  have y1 := blk_cell hq1 (i := 1) rfl
  have y2 := blk_cell hq1 (i := 2) rfl
  have y3 := blk_cell hq1 (i := 3) rfl
  have fz := blk_frozen hq1
  have HP := Lib.hid (And.intro hp (And.intro ht (And.intro hr' (And.intro hO (And.intro hnew hq1)))))
  clear hp ht hr' hO hnew hq1 hc
  obtain ⟨b, hb⟩ : ∃ b, b = !foundB K o.f1 lo := ⟨_, rfl⟩
  rw [← hb]
  have HB := Lib.hid hb
  clear hb
  go_wp2_with fail
  have hres := set4 HP.out.2.2.2.2.2 (.bool b) (.string ⟨#[]⟩) (.slice none 0 0) (.slice none 0 0)
  refine bodyPost_ret (results_cell_row rfl _ _ (w.heap.size + 1) 43 #[.bool b, .string ⟨#[]⟩, .slice none 0 0, .slice none 0 0] (0, 0) _ rfl hres Try.underlying43 rfl (by kernel_rfl)) rfl ?_
  have hfin := done_mk (w := w) (w1 := w1) (t := t) (base := base) (q := w.heap.size + 1) (K := K) (V := V) (vk := vk) (vv := vv) (o := o) (r := ⟨b, ⟨#[]⟩, [], []⟩) (A2 := none) (c2 := 0) (A3 := none) (c3 := 0) (.bool b) (.string ⟨#[]⟩) (.slice none 0 0) (.slice none 0 0)
    (K' := K') (V' := V') (by
      unfold DoIs
      rw [if_pos H.out.2.2.2]
      refine ⟨lo, HP.out.1.1, ?_⟩
      have := HP.out.1.2
      split
      · rename_i hf
        rw [if_pos hf] at this
        exact ⟨this.1, this.2, by rw [HB.out, hf]; rfl⟩
      · rename_i hf
        rw [if_neg hf] at this
        exact ⟨this.1, this.2, by rw [HB.out, Bool.not_eq_true _ |>.mp hf]; rfl⟩)
    (Nat.le_refl _) (Kd.C_nil _ _) (Nat.le_refl _) (Kd.C_nil _ _) HP.out.2.1 HP.out.2.2.1 ((Only.of_below (S := TabS t vk vv) H.out.2.1 fun b h1 h2 => by omega).trans' HP.out.2.2.2.1) (by omega) (fun q => by
      rcases HP.out.2.2.2.2.1 _ q with k | k
      · have := H.out.1.lt k; omega
      · simp at k; omega)
  exact hfin
theorem rlook_any {w : World} {t base : Nat} {K : List Int} {V : List ByteArray} {vk vv : Value} (h : RTab w t base K V vk vv) (hr : Rising K) (key : Int) :
    Calls Try.prog 53 #[.pointer (some ⟨t, 0, none⟩), .int .i64 key] w fun e w' => ∃ (lo : Nat) (v : ByteArray), AtPlace K key lo ∧ v = (if foundB K key lo = true then V.getD lo ⟨#[]⟩ else ⟨#[]⟩) ∧ e = .returned (.tuple #[.string v, .bool (foundB K key lo)]) ∧ ∃ n, w' = w.drewN n := by
  obtain ⟨lo, hlo⟩ := place_ex hr key
  have hno : ∀ l, AtPlace K key l → foundB K key l = foundB K key lo := fun l hl => by rw [place_one hl hlo]
  cases hf : foundB K key lo with
  | true =>
    refine (rlook_some h hr key fun l hl => (hno l hl).trans hf).mono fun e w' ⟨l, hl, he, hw⟩ => ?_
    obtain rfl := place_one hl hlo
    exact ⟨l, _, hl, by rw [if_pos hf], by rw [he, hf], hw⟩
  | false =>
    refine (rlook_none h hr key fun l hl => (hno l hl).trans hf).mono fun e w' ⟨he, hw⟩ => ?_
    exact ⟨lo, _, hlo, by rw [if_neg (by rw [hf]; simp)], by rw [he, hf], hw⟩
theorem DoneBy.of {w w1 : World} {t base q : Nat} {K : List Int} {V : List ByteArray} {vk vv : Value} {o : S40} {r : S43} {A2 : Option Addr} {c2 : Nat} {A3 : Option Addr} {c3 : Nat} (a b c d : Value) (hd : DoIs K V o K V r) (h : RTab w t base K V vk vv) (hr : Rising K) (hb : Below w.heap.size w w1) (hq : w.heap.size ≤ q)
    (l2 : r.f2.length ≤ c2) (g2 : (Kd.int .i64).C (stored4 w1 q a b c d) A2 r.f2.length r.f2) (l3 : r.f3.length ≤ c3) (g3 : Kd.string.C (stored4 w1 q a b c d) A3 r.f3.length r.f3) :
    DoneBy w t base K V vk vv o (.returned (.agg #[.bool r.f0, .string r.f1, .slice A2 r.f2.length c2, .slice A3 r.f3.length c3])) (stored4 w1 q a b c d) :=
  done_mk a b c d hd l2 g2 l3 g3 (h.below hb) hr (Only.of_below (S := TabS t vk vv) hb fun b h1 h2 => by omega) hq fun k => by have := h.lt k; omega
set_option maxRecDepth 100000 in
set_option maxHeartbeats 2000000 in
theorem rdo_look {w : World} {t base : Nat} {K : List Int} {V : List ByteArray} {vk vv : Value} (h : RTab w t base K V vk vv) (hr : Rising K) (o : S40) (ho : o.f0 = 2) :
    Calls Try.prog 37 #[.pointer (some ⟨t, 0, none⟩), .agg #[.int .i64 o.f0, .int .i64 o.f1, .string o.f2]] w fun e w' => DoneBy w t base K V vk vv o e w' := by
  have hu := Try.underlying40
  have hu2 := Try.underlying43
  have h2 : RTab ((w.alloc (.cells #[.int .i64 2, .int .i64 o.f1, .string o.f2] 40)).alloc (.cells #[.bool false, .string ⟨#[]⟩, .slice none 0 0, .slice none 0 0] 43)) t base K V vk vv := (h.below (below_alloc (Below.refl _ _) _)).below (below_alloc (Below.refl _ _) _)
  have hbl : Below w.heap.size w ((w.alloc (.cells #[.int .i64 2, .int .i64 o.f1, .string o.f2] 40)).alloc (.cells #[.bool false, .string ⟨#[]⟩, .slice none 0 0, .slice none 0 0] 43)) := below_alloc (below_alloc (Below.refl _ _) _) _
  have hq := blk_new (w.alloc (.cells #[.int .i64 2, .int .i64 o.f1, .string o.f2] 40)) (.cells #[.bool false, .string ⟨#[]⟩, .slice none 0 0, .slice none 0 0] 43)
  simp only [World.size_alloc] at hq
  have hc := rlook_any h2 hr o.f1
  have H := Lib.hid (And.intro h (And.intro hbl (And.intro hq (And.intro ho hr))))
  rw [ho]
  clear h hr h2 hbl hq ho
  go_enter Try.func37, Try.ntmps37
  go_wp2_with fail
  refine hc.mono ?_
  rintro e w1 ⟨lo, v, hlo, hv, rfl, hn⟩
  have hb1 : Below w.heap.size w w1 := by obtain ⟨n, rfl⟩ := hn; exact pw_below_drewN H.out.2.1 _
  have hq1 : w1.heap[w.heap.size + 1]? = some (.cells #[.bool false, .string ⟨#[]⟩, .slice none 0 0, .slice none 0 0] 43 (0, 0)) := by obtain ⟨n, rfl⟩ := hn; exact H.out.2.2.1
  have y0 := blk_cell hq1 (i := 0) rfl
  have y1 := blk_cell hq1 (i := 1) rfl
  have y2 := blk_cell hq1 (i := 2) rfl
  have y3 := blk_cell hq1 (i := 3) rfl
  have fz := blk_frozen hq1
  obtain ⟨b, hb⟩ : ∃ b, b = foundB K o.f1 lo := ⟨_, rfl⟩
  rw [← hb] at hv ⊢
  have HP := Lib.hid (And.intro hlo (And.intro hv (And.intro hb1 (And.intro hq1 hb))))
  clear hlo hv hb1 hq1 hb hc hn
  go_wp2_with fail
  have hres := set4 HP.out.2.2.2.1 (.bool b) (.string v) (.slice none 0 0) (.slice none 0 0)
  refine bodyPost_ret (results_cell_row rfl _ _ (w.heap.size + 1) 43 #[.bool b, .string v, .slice none 0 0, .slice none 0 0] (0, 0) _ rfl hres Try.underlying43 rfl (by kernel_rfl)) rfl ?_
  have hfin := DoneBy.of (w := w) (w1 := w1) (q := w.heap.size + 1) (o := o) (r := ⟨b, v, [], []⟩) (A2 := none) (c2 := 0) (A3 := none) (c3 := 0) (.bool b) (.string v) (.slice none 0 0) (.slice none 0 0) (K := K) (V := V)
    (by
      unfold DoIs
      rw [if_neg (by rw [H.out.2.2.2.1]; omega), if_pos H.out.2.2.2.1]
      refine ⟨lo, HP.out.1, rfl, rfl, ?_⟩
      rw [← HP.out.2.2.2.2, HP.out.2.1]
      cases b
      · rfl
      · rfl) H.out.1 H.out.2.2.2.2 HP.out.2.2.1 (by omega) (Nat.le_refl _) (Kd.C_nil _ _) (Nat.le_refl _) (Kd.C_nil _ _)
  exact hfin
set_option maxRecDepth 100000 in
set_option maxHeartbeats 2000000 in
theorem rdo_snap {w : World} {t base : Nat} {K : List Int} {V : List ByteArray} {vk vv : Value} (h : RTab w t base K V vk vv) (hr : Rising K) (o : S40) (h1 : o.f0 ≠ 1) (hk2 : o.f0 ≠ 2) :
    Calls Try.prog 37 #[.pointer (some ⟨t, 0, none⟩), .agg #[.int .i64 o.f0, .int .i64 o.f1, .string o.f2]] w fun e w' => DoneBy w t base K V vk vv o e w' := by
  have hu := Try.underlying40
  have hu2 := Try.underlying43
  have h2 : RTab ((w.alloc (.cells #[.int .i64 o.f0, .int .i64 o.f1, .string o.f2] 40)).alloc (.cells #[.bool false, .string ⟨#[]⟩, .slice none 0 0, .slice none 0 0] 43)) t base K V vk vv := (h.below (below_alloc (Below.refl _ _) _)).below (below_alloc (Below.refl _ _) _)
  have hbl : Below w.heap.size w ((w.alloc (.cells #[.int .i64 o.f0, .int .i64 o.f1, .string o.f2] 40)).alloc (.cells #[.bool false, .string ⟨#[]⟩, .slice none 0 0, .slice none 0 0] 43)) := below_alloc (below_alloc (Below.refl _ _) _) _
  have hq := blk_new (w.alloc (.cells #[.int .i64 o.f0, .int .i64 o.f1, .string o.f2] 40)) (.cells #[.bool false, .string ⟨#[]⟩, .slice none 0 0, .slice none 0 0] 43)
  simp only [World.size_alloc] at hq
  have hc := rsnap h2
  have e1 : (o.f0 == 1) = false := beq_eq_false_iff_ne.mpr h1
  have e2 : (o.f0 == 2) = false := beq_eq_false_iff_ne.mpr hk2
  have H := Lib.hid (And.intro h (And.intro hbl (And.intro hq (And.intro h1 (And.intro hk2 hr)))))
  clear h hr h2 hbl hq h1 hk2
  go_enter Try.func37, Try.ntmps37
  go_wp2_with fail
  refine hc.mono ?_
  rintro e w1 ⟨v2, v3, rfl, hcp⟩
  obtain ⟨k2, k3, hb⟩ := hcp
  obtain ⟨A2, c2, rfl⟩ := own_slice k2
  obtain ⟨A3, c3, rfl⟩ := own_slice k3
  have hb1 : Below w.heap.size w w1 := below_step H.out.2.1 hb
  have hq1 := blk_below H.out.2.2.1 hb
  have y0 := blk_cell hq1 (i := 0) rfl
  have y1 := blk_cell hq1 (i := 1) rfl
  have y2 := blk_cell hq1 (i := 2) rfl
  have y3 := blk_cell hq1 (i := 3) rfl
  have fz := blk_frozen hq1
  have HP := Lib.hid (And.intro k2 (And.intro k3 (And.intro hb1 hq1)))
  clear k2 k3 hb1 hq1 hc hb
  go_wp2_with fail
  have hres := set4 HP.out.2.2.2 (.bool true) (.string ⟨#[]⟩) (.slice A2 K.length c2) (.slice A3 V.length c3)
  refine bodyPost_ret (results_cell_row rfl _ _ (w.heap.size + 1) 43 #[.bool true, .string ⟨#[]⟩, .slice A2 K.length c2, .slice A3 V.length c3] (0, 0) _ rfl hres Try.underlying43 rfl (by kernel_rfl)) rfl ?_
  have hr2 := own_reads1 (h1 := fun _ => rfl) (row_move (W1 := stored4 w1 (w.heap.size + 1) (.bool true) (.string ⟨#[]⟩) (.slice A2 K.length c2) (.slice A3 V.length c3)) HP.out.1 fun g e => (stored4_only w1 _ _ _ _ _).block g (own_lt HP.out.1 e) (fun q => by have := (HP.out.1.lt g e).1; simp at this; omega))
  have hr3 := own_reads1 (h1 := fun _ => rfl) (row_move (W1 := stored4 w1 (w.heap.size + 1) (.bool true) (.string ⟨#[]⟩) (.slice A2 K.length c2) (.slice A3 V.length c3)) HP.out.2.1 fun g e => (stored4_only w1 _ _ _ _ _).block g (own_lt HP.out.2.1 e) (fun q => by have := (HP.out.2.1.lt g e).1; simp at this; omega))
  have hfin := DoneBy.of (w := w) (w1 := w1) (q := w.heap.size + 1) (o := o) (r := ⟨true, ⟨#[]⟩, K, V⟩) (A2 := A2) (c2 := c2) (A3 := A3) (c3 := c3) (.bool true) (.string ⟨#[]⟩) (.slice A2 K.length c2) (.slice A3 V.length c3) (K := K) (V := V)
    (by
      unfold DoIs
      rw [if_neg H.out.2.2.2.1, if_neg H.out.2.2.2.2.1]
      exact ⟨rfl, rfl, rfl⟩) H.out.1 H.out.2.2.2.2.2 HP.out.2.2.1 (by omega) hr2.2 hr2.1 hr3.2 hr3.1
  exact hfin
theorem rdo {w : World} {t base : Nat} {K : List Int} {V : List ByteArray} {vk vv : Value} (h : RTab w t base K V vk vv) (hr : Rising K) (hsm : K.length < 1099511627776) (hbs : base ≤ w.heap.size) (o : S40) :
    Calls Try.prog 37 #[.pointer (some ⟨t, 0, none⟩), .agg #[.int .i64 o.f0, .int .i64 o.f1, .string o.f2]] w fun e w' => DoneBy w t base K V vk vv o e w' := by
  by_cases h1 : o.f0 = 1
  · exact rdo_pub h hr hsm hbs o h1
  · by_cases h2 : o.f0 = 2
    · exact rdo_look h hr o h2
    · exact rdo_snap h hr o h1 h2
theorem eqints_loop (a b : List Int) (hl : a.length = b.length) (hs : a.length ≤ 9223372036854775806) : ∀ (k i : Nat), i ≤ a.length → a.length + 1 ≤ k + i → ∃ r, fugueref00_EqInts.l0 k a b (i : Int) = some r ∧ (r = true ↔ ∀ j, i ≤ j → j < a.length → a.getD j 0 = b.getD j 0) := by
  intro k
  induction k with
  | zero => intro i h1 h2; omega
  | succ k ih =>
    intro i h1 h2
    unfold fugueref00_EqInts.l0
    by_cases hi : i < a.length
    · have hw : wrap64 ((i : Int) + 1) = ((i + 1 : Nat) : Int) := by unfold wrap64; omega
      obtain ⟨r, hr, hq⟩ := ih (i + 1) (by omega) (by omega)
      have e1 : rd a (i : Int) = a.getD i 0 := rfl
      have e2 : rd b (i : Int) = b.getD i 0 := rfl
      by_cases he : a.getD i 0 = b.getD i 0
      · refine ⟨r, ?_, hq.trans ⟨fun h j a1 a2 => ?_, fun h j a1 a2 => h j (by omega) a2⟩⟩
        · simp only [e1, e2, hw, hr, he]
          repeat (first | rw [if_pos (by omega)] | rw [if_neg (by omega)] | rw [if_pos (by simp)] | rw [if_neg (by simp)])
        · rcases Nat.lt_or_ge i j with q | q
          · exact h j q a2
          · obtain rfl : i = j := by omega
            exact he
      · refine ⟨false, ?_, ⟨(fun h => by cases h), fun h => absurd (h i (Nat.le_refl _) hi) he⟩⟩
        simp only [e1, e2, hw, hr]
        repeat (first | rw [if_pos (by omega)] | rw [if_neg (by omega)] | rw [if_pos he] | rw [if_neg he])
    · refine ⟨true, ?_, ⟨fun _ j a1 a2 => by omega, fun _ => rfl⟩⟩
      rw [if_neg (by omega)]
theorem eqstrs_loop (a b : List ByteArray) (hl : a.length = b.length) (hs : a.length ≤ 9223372036854775806) : ∀ (k i : Nat), i ≤ a.length → a.length + 1 ≤ k + i → ∃ r, fugueref00_EqStrings.l0 k a b (i : Int) = some r ∧ (r = true ↔ ∀ j, i ≤ j → j < a.length → a.getD j ByteArray.empty = b.getD j ByteArray.empty) := by
  intro k
  induction k with
  | zero => intro i h1 h2; omega
  | succ k ih =>
    intro i h1 h2
    unfold fugueref00_EqStrings.l0
    by_cases hi : i < a.length
    · have hw : wrap64 ((i : Int) + 1) = ((i + 1 : Nat) : Int) := by unfold wrap64; omega
      obtain ⟨r, hr, hq⟩ := ih (i + 1) (by omega) (by omega)
      have e1 : rdOf ByteArray.empty a (i : Int) = a.getD i ByteArray.empty := rfl
      have e2 : rdOf ByteArray.empty b (i : Int) = b.getD i ByteArray.empty := rfl
      by_cases he : a.getD i ByteArray.empty = b.getD i ByteArray.empty
      · refine ⟨r, ?_, hq.trans ⟨fun h j a1 a2 => ?_, fun h j a1 a2 => h j (by omega) a2⟩⟩
        · simp only [e1, e2, hw, hr, he]
          repeat (first | rw [if_pos (by omega)] | rw [if_neg (by omega)] | rw [if_pos (by simp)] | rw [if_neg (by simp)])
        · rcases Nat.lt_or_ge i j with q | q
          · exact h j q a2
          · obtain rfl : i = j := by omega
            exact he
      · refine ⟨false, ?_, ⟨(fun h => by cases h), fun h => absurd (h i (Nat.le_refl _) hi) he⟩⟩
        simp only [e1, e2, hw, hr]
        repeat (first | rw [if_pos (by omega)] | rw [if_neg (by omega)] | rw [if_neg (fun q => he (str_eq.1 (beq_iff_eq.2 q)))])
    · refine ⟨true, ?_, ⟨fun _ j a1 a2 => by omega, fun _ => rfl⟩⟩
      rw [if_neg (by omega)]
theorem list_ext_getD {α : Type} (d : α) {a b : List α} (hl : a.length = b.length) (h : ∀ j, 0 ≤ j → j < a.length → a.getD j d = b.getD j d) : a = b := by
  refine List.ext_getElem hl fun j h1 h2 => ?_
  have := h j (Nat.zero_le _) h1
  rwa [List.getD_eq_getElem?_getD, List.getD_eq_getElem?_getD, List.getElem?_eq_getElem h1, List.getElem?_eq_getElem h2] at this
theorem eqints_some (a b : List Int) (hs : a.length ≤ 9223372036854775806) : ∃ r, fugueref00_EqInts.f (a.length + 1) a b = some r ∧ (r = true ↔ a = b) := by
  unfold fugueref00_EqInts.f
  by_cases hl : a.length = b.length
  · obtain ⟨r, h1, h2⟩ := eqints_loop a b hl hs (a.length + 1) 0 (Nat.zero_le _) (Nat.le_refl _)
    exact ⟨r, by rw [if_pos (by omega)]; exact h1, h2.trans ⟨fun h => list_ext_getD 0 hl h, fun h j _ _ => by rw [h]⟩⟩
  · exact ⟨false, by rw [if_neg (by omega)], (fun h => by cases h), fun h => absurd (by rw [h]) hl⟩
theorem eqstrs_some (a b : List ByteArray) (hs : a.length ≤ 9223372036854775806) : ∃ r, fugueref00_EqStrings.f (a.length + 1) a b = some r ∧ (r = true ↔ a = b) := by
  unfold fugueref00_EqStrings.f
  by_cases hl : a.length = b.length
  · obtain ⟨r, h1, h2⟩ := eqstrs_loop a b hl hs (a.length + 1) 0 (Nat.zero_le _) (Nat.le_refl _)
    exact ⟨r, by rw [if_pos (by omega)]; exact h1, h2.trans ⟨fun h => list_ext_getD _ hl h, fun h j _ _ => by rw [h]⟩⟩
  · exact ⟨false, by rw [if_neg (by omega)], (fun h => by cases h), fun h => absurd (by rw [h]) hl⟩
theorem eqreply_some (r s : S43) (hl : r.f2.length = r.f3.length) (hs : r.f2.length ≤ 9223372036854775806) : ∃ b, fugueref00_EqReply.f (r.f2.length + 1) r.f0 r.f1 r.f2 r.f3 s.f0 s.f1 s.f2 s.f3 = some b ∧ (b = true ↔ r = s) := by
  obtain ⟨a, a1, a2⟩ := eqints_some r.f2 s.f2 hs
  obtain ⟨b, b1, b2⟩ := eqstrs_some r.f3 s.f3 (by omega)
  rw [← hl] at b1
  have hx : r = s ↔ r.f0 = s.f0 ∧ r.f1 = s.f1 ∧ r.f2 = s.f2 ∧ r.f3 = s.f3 := ⟨fun h => by subst h; exact ⟨rfl, rfl, rfl, rfl⟩, fun h => by cases r; cases s; simp_all⟩
  rw [hx]
  unfold fugueref00_EqReply.f
  by_cases h0 : r.f0 = s.f0
  · rw [if_pos (beq_iff_eq.2 h0)]
    by_cases h1 : r.f1 = s.f1
    · rw [if_pos (by rw [h1]), a1]
      dsimp only [Option.bind_some]
      cases a
      · exact ⟨false, rfl, (fun h => by cases h), fun h => a2.2 h.2.2.1⟩
      · rw [if_pos rfl, b1]
        exact ⟨b, rfl, fun h => ⟨h0, h1, a2.1 rfl, b2.1 h⟩, fun h => b2.2 h.2.2.2⟩
    · exact ⟨false, by rw [if_neg (fun q => h1 (str_eq.1 (beq_iff_eq.2 q)))], (fun h => by cases h), fun h => absurd h.2.1 h1⟩
  · exact ⟨false, by rw [if_neg (fun q => h0 (beq_iff_eq.1 q))], (fun h => by cases h), fun h => absurd h.1 h0⟩
/-- the last call that begins there, below n -/
def atK (cs : List S70) (x : Int) : Nat → Option Nat
  | 0 => none
  | k + 1 => if (rd_T70 cs k).f0 = x then some k else atK cs x k
def atI : Option Nat → Int
  | none => -1
  | some k => (k : Nat)
theorem atK_lt {cs : List S70} {x : Int} {k : Nat} : ∀ {n : Nat}, atK cs x n = some k → k < n := by
  intro n
  induction n with
  | zero => intro h; cases h
  | succ n ih =>
    intro h
    unfold atK at h
    split at h
    · cases h; omega
    · have := ih h; omega
/-- nothing played before begins there, or begins behind this call's end -/
def clearB (x tt : Int) (bef : List S70) (n : Nat) : Prop := ∀ j, j < n → (rd_T70 bef j).f0 ≠ x ∧ ¬ tt < (rd_T70 bef j).f0
inductive Reach (cs : List S70) (os : List Int) : Nat → List S70 → List Int → List ByteArray → Prop
  | zero : Reach cs os 0 [] [] []
  | step {i : Nat} {bef : List S70} {K : List Int} {V : List ByteArray} {k : Nat} {K' : List Int} {V' : List ByteArray} {r : S43} : Reach cs os i bef K V → atK cs (os.getD i 0) cs.length = some k → clearB (os.getD i 0) (rd_T70 cs k).f1 bef bef.length →
      DoIs K V (rd_T70 cs k).f2 K' V' r → r = (rd_T70 cs k).f3 → Reach cs os (i + 1) (bef ++ [rd_T70 cs k]) K' V'
theorem does_one {K : List Int} {V : List ByteArray} {o : S40} {K1 : List Int} {V1 : List ByteArray} {r1 : S43} {K2 : List Int} {V2 : List ByteArray} {r2 : S43} (h : DoIs K V o K1 V1 r1) (g : DoIs K V o K2 V2 r2) : K1 = K2 ∧ V1 = V2 ∧ r1 = r2 := by
  unfold DoIs at h g
  split at h
  · rename_i h1
    rw [if_pos h1] at g
    obtain ⟨a, ha, hb⟩ := h
    obtain ⟨b, ga, gb⟩ := g
    obtain rfl := place_one ha ga
    split at hb
    · rename_i hf
      rw [if_pos hf] at gb
      obtain ⟨rfl, rfl, rfl⟩ := hb
      obtain ⟨rfl, rfl, rfl⟩ := gb
      exact ⟨rfl, rfl, rfl⟩
    · rename_i hf
      rw [if_neg hf] at gb
      obtain ⟨rfl, rfl, rfl⟩ := hb
      obtain ⟨rfl, rfl, rfl⟩ := gb
      exact ⟨rfl, rfl, rfl⟩
  · rename_i h1
    rw [if_neg h1] at g
    split at h
    · rename_i h2
      rw [if_pos h2] at g
      obtain ⟨a, ha, rfl, rfl, rfl⟩ := h
      obtain ⟨b, ga, rfl, rfl, rfl⟩ := g
      obtain rfl := place_one ha ga
      exact ⟨rfl, rfl, rfl⟩
    · rename_i h2
      rw [if_neg h2] at g
      obtain ⟨rfl, rfl, rfl⟩ := h
      obtain ⟨rfl, rfl, rfl⟩ := g
      exact ⟨rfl, rfl, rfl⟩
theorem reach_one {cs : List S70} {os : List Int} {i : Nat} {b1 : List S70} {K1 : List Int} {V1 : List ByteArray} (h : Reach cs os i b1 K1 V1) : ∀ {b2 : List S70} {K2 : List Int} {V2 : List ByteArray}, Reach cs os i b2 K2 V2 → b1 = b2 ∧ K1 = K2 ∧ V1 = V2 := by
  induction h with
  | zero => intro b2 K2 V2 g; cases g; exact ⟨rfl, rfl, rfl⟩
  | step _ hk _ hd _ ih =>
    intro b2 K2 V2 g
    cases g with
    | step g0 gk _ gd _ =>
      obtain ⟨rfl, rfl, rfl⟩ := ih g0
      rw [hk] at gk
      cases gk
      obtain ⟨rfl, rfl, rfl⟩ := does_one hd gd
      exact ⟨rfl, rfl, rfl⟩
/-- the order is played -/
def Played (cs : List S70) (os : List Int) : Prop := os.length = cs.length ∧ ∃ bef K V, Reach cs os os.length bef K V
theorem reach_down {cs : List S70} {os : List Int} {i j : Nat} (hij : j ≤ i) : ∀ {bef : List S70} {K : List Int} {V : List ByteArray}, Reach cs os i bef K V → ∃ bef K V, Reach cs os j bef K V := by
  induction hij with
  | refl => intro bef K V h; exact ⟨_, _, _, h⟩
  | step _ ih => intro bef K V h; cases h with | step h0 _ _ _ _ => exact ih h0
theorem reach_len {cs : List S70} {os : List Int} {i : Nat} {bef : List S70} {K : List Int} {V : List ByteArray} (h : Reach cs os i bef K V) : bef.length = i := by
  induction h with
  | zero => rfl
  | step _ _ _ _ _ ih => simp [ih]
/-- where a round fails nothing is played -/
theorem not_played {cs : List S70} {os : List Int} {i : Nat} {bef : List S70} {K : List Int} {V : List ByteArray} (hi : i < os.length) (h : Reach cs os i bef K V)
    (hn : ∀ k K' V' r, atK cs (os.getD i 0) cs.length = some k → clearB (os.getD i 0) (rd_T70 cs k).f1 bef bef.length → DoIs K V (rd_T70 cs k).f2 K' V' r → r ≠ (rd_T70 cs k).f3) : ¬ Played cs os := by
  rintro ⟨_, b, K1, V1, hr⟩
  obtain ⟨b2, K2, V2, h2⟩ := reach_down (j := i + 1) (by omega) hr
  cases h2 with
  | step g0 gk gc gd ge =>
    obtain ⟨rfl, rfl, rfl⟩ := reach_one h g0
    exact hn _ _ _ _ gk gc gd ge
theorem row_apart {W : World} {t base : Nat} {K : List Int} {V : List ByteArray} {vk vv : Value} (h : RTab W t base K V vk vv) {base2 size n : Nat} {v : Value} {xs : List Value} (ho : W.ownsRow base2 70 size v n xs) : ∀ g, v.ownBlock = some g → ¬ TabS t vk vv g := by
  intro g hg hs
  obtain ⟨c1, h1⟩ := own_typed ho g hg
  rcases hs with rfl | hs | hs
  · rw [h.blk] at h1; cases h1
  · obtain ⟨c2, h2⟩ := own_typed h.keys g hs
    rw [h1] at h2; cases h2
  · obtain ⟨c2, h2⟩ := own_typed h.vals g hs
    rw [h1] at h2; cases h2
theorem RTab.grown {W W1 : World} {t base : Nat} {K : List Int} {V : List ByteArray} {vk vv : Value} (h : RTab W t base K V vk vv) {base2 size n : Nat} {v : Value} {xs : List Value} (ho : W.ownsRow base2 70 size v n xs) (hg : W.grownBy W1 v.ownBlock) : RTab W1 t base K V vk vv :=
  have hne : ∀ b, TabS t vk vv b → some b ≠ v.ownBlock := fun b hb e => row_apart h ho b e.symm hb
  ⟨(hg.block t (blk_lt h.blk) (hne t (.inl rfl))).trans h.blk, row_move h.keys fun g e => hg.block g (own_lt h.keys e) (hne g (.inr (.inl e))), row_move h.vals fun g e => hg.block g (own_lt h.vals e) (hne g (.inr (.inr e))), h.out, h.apart, h.len, h.small⟩
theorem refB_len {l0 : List S45} {cs : List S70} (h : refB l0 = some cs) : cs.length ≤ l0.length := by
  unfold refB at h
  split at h
  · cases h
  · obtain ⟨s, h1, h2⟩ := Option.bind_eq_some_iff.1 h
    split at h2
    · cases h2
      have := cat_len _ _ h1
      omega
    · cases h2
theorem does_len {K : List Int} {V : List ByteArray} {o : S40} {K' : List Int} {V' : List ByteArray} {r : S43} (h : DoIs K V o K' V' r) : K'.length ≤ K.length + 1 := by
  unfold DoIs at h
  split at h
  · obtain ⟨lo, hp, h⟩ := h
    split at h
    · rw [h.1]; omega
    · rw [h.1, holed_len hp.le]; exact Nat.le_refl _
  · split at h
    · obtain ⟨lo, _, h, _⟩ := h; rw [h]; omega
    · rw [h.1]; omega
theorem does_reply {K : List Int} {V : List ByteArray} {o : S40} {K' : List Int} {V' : List ByteArray} {r : S43} (h : DoIs K V o K' V' r) (hl : K.length = V.length) : r.f2.length = r.f3.length ∧ r.f2.length ≤ K.length := by
  unfold DoIs at h
  split at h
  · obtain ⟨lo, hp, h⟩ := h
    split at h <;> (rw [h.2.2]; exact ⟨rfl, Nat.zero_le _⟩)
  · split at h
    · obtain ⟨lo, _, _, _, h⟩ := h
      rw [h]
      split <;> exact ⟨rfl, Nat.zero_le _⟩
    · rw [h.2.2]; exact ⟨hl, Nat.le_refl _⟩
/-- ahead of the i-th call of the order -/
structure PInv (w w1 wr : World) (cs : List S70) (os : List Int) (i : Nat) (bef : List S70) (K : List Int) (V : List ByteArray) (vk vv v : Value) : Prop where
  reach : Reach cs os i bef K V
  row : OwnRow (k70.K w1) 70 9 wr w1.heap.size v bef
  tab : RTab wr w1.heap.size (w1.heap.size + 1) K V vk vv
  rising : Rising K
  small : K.length ≤ i
  below : Below w1.heap.size w1 wr
theorem PInv.move {w w1 wr w2 : World} {cs : List S70} {os : List Int} {i : Nat} {bef : List S70} {K : List Int} {V : List ByteArray} {vk vv v : Value} (h : PInv w w1 wr cs os i bef K V vk vv v) (hb : Below wr.heap.size wr w2) : PInv w w1 w2 cs os i bef K V vk vv v :=
  ⟨h.reach, h.row.below hb, h.tab.below hb, h.rising, h.small, below_step h.below hb⟩
set_option maxRecDepth 200000 in
set_option maxHeartbeats 16000000 in
theorem played_walk (w : World) (A : Option Addr) (c : Nat) (l0 : List S45) (hr : Kd.C k45 w A l0.length l0) (hc : l0.length ≤ c) (hl : l0.length ≤ 2147483647) (Ao : Option Addr) (co : Nat) (os : List Int) (ho : (Kd.int .i64).C w Ao os.length os) (hco : os.length ≤ co) (cs : List S70) (hcs : refB l0 = some cs) :
    Calls Try.prog 23 #[.slice A l0.length c, .slice Ao os.length co] w fun e w' => Below w.heap.size w w' ∧ ∃ b, e = .returned (.bool b) ∧ (b = true ↔ Played cs os) := by
  have hcw := calls_walk w A c l0 hr hc hl
  have HCW := Lib.hid hcw
  have HO := Lib.hid (And.intro ho hco)
  have HR := Lib.hid (And.intro hr hc)
  have HCS := Lib.hid hcs
  have hcl := refB_len hcs
  clear hr hc ho hco hcs hcw
  have hu70 := Try.underlying70
  have hu40 := Try.underlying40
  have hu43 := Try.underlying43
  go_enter Try.func23, Try.ntmps23
  go_wp2_with fail
  refine HCW.out.mono ?_
  rintro e w1 ⟨hb, v, ok, rfl, hend⟩
  rw [HCS.out] at hend
  obtain ⟨hrow, rfl⟩ := hend
  obtain ⟨A3, c3, rfl, h3⟩ := hrow.slice_
  obtain ⟨A3', c3', he3, _, hC3⟩ := (hrow.imp_ (fun _ _ => k70.K_below hb)).reads
  cases he3
  have HW := Lib.hid (And.intro hb (And.intro hC3 h3))
  clear hb hrow h3 hC3
  by_cases hle : os.length = cs.length
  · have heD : ((os.length : Int) == (cs.length : Int)) = true := beq_iff_eq.2 (by omega)
    go_wp2_with fail
    go_loopw [8, 9] (fun s8 s9 wr => ∃ (i : Nat) (bef : List S70) (K : List Int) (V : List ByteArray) (vk vv : Value), i ≤ cs.length ∧ s9 = .int .i64 i ∧ PInv w w1 wr cs os i bef K V vk vv s8) (fun _ s9 _ => cs.length - (intOf s9).toNat)
    case atStart => exact ⟨0, [], [], [], .slice none 0 0, .slice none 0 0, Nat.zero_le _, rfl, .zero, OwnRow.none_ _ _ _ _ _, ⟨new_blk _, own_nil _ _ _ _, own_nil _ _ _ _, Nat.lt_succ_self _, (fun g e => by cases e), rfl, Nat.zero_le _⟩, (fun i j _ q => by cases q), Nat.zero_le _, below_alloc (Below.refl _ _) _⟩
    case round =>
      obtain ⟨i, bef, K, V, vk, vv, hi, rfl, hP⟩ := hrel
      obtain ⟨A8, c8, rfl, h8⟩ := hP.row.slice_
      have HBL := Lib.hid (reach_len hP.reach)
      have HP := Lib.hid hP
      have H8 := Lib.hid h8
      clear hP h8
      by_cases hlt : i < cs.length
      · have hlD : decide ((i : Int) < (cs.length : Int)) = true := by simp; omega
        obtain ⟨x, hx⟩ : ∃ x, x = os.getD i 0 := ⟨_, rfl⟩
        have HX := Lib.hid hx
        clear hx
        obtain ⟨wP, hwP⟩ : ∃ wP, wP = wr := ⟨_, rfl⟩
        subst hwP
        go_wp2_with fail
        go_loopw [10, 11] (fun s10 s11 wr => ∃ k : Nat, k ≤ cs.length ∧ s10 = .int .i64 (atI (atK cs x k)) ∧ s11 = .int .i64 k ∧ Below wP.heap.size wP wr) (fun _ s11 _ => cs.length - (intOf s11).toNat)
        case atStart => exact ⟨0, Nat.zero_le _, rfl, rfl, Below.refl _ _⟩
        case round =>
          obtain ⟨k, hk, rfl, rfl, hB⟩ := hrel
          have HB := Lib.hid hB
          clear hB
          by_cases hkl : k < cs.length
          · have hkD : decide ((k : Int) < (cs.length : Int)) = true := by simp; omega
            obtain ⟨ac, E7, e7, E8, e8, hA3, q0, q1, q2, q3, q4, q5, q6, q7, q8, _, _, _, _⟩ := at_T70 (w := wr) (Kd.C_below HW.out.2.1 (below_step HP.out.below HB.out)) k (by omega) (by omega)
            subst hA3
            obtain ⟨ao, hAo, y0⟩ := Kd.at_int (w := wr) (Kd.C_below (Kd.C_below HO.out.1 HW.out.1) (below_step HP.out.below HB.out)) i (by omega) (by omega)
            subst hAo
            have hrd : rd os (i : Int) = x := by rw [HX.out]; rfl
            rw [hrd] at y0
            simp only [Int.toNat_natCast] at q0 y0
            clear q1 q2 q3 q4 q5 q6 q7 q8 hrd
            by_cases hq : (rd_T70 cs k).f0 = x
            · have hqD : ((rd_T70 cs k).f0 == x) = true := beq_iff_eq.2 hq
              go_wp2_with fail
              go_quiet (fail)
              go_wp2_with fail
              go_roundw
              case rel => exact ⟨k + 1, by omega, by show _ = Value.int .i64 (atI (if (rd_T70 cs k).f0 = x then some k else atK cs x k)); rw [if_pos hq]; rfl, by go_num, pw_below_drewN HB.out _⟩
              case measure => simp [intOf]; omega
            · have hqD : ((rd_T70 cs k).f0 == x) = false := beq_eq_false_iff_ne.mpr hq
              go_wp2_with fail
              go_quiet (fail)
              go_wp2_with fail
              go_roundw
              case rel => exact ⟨k + 1, by omega, by show _ = Value.int .i64 (atI (if (rd_T70 cs k).f0 = x then some k else atK cs x k)); rw [if_neg hq], by go_num, pw_below_drewN HB.out _⟩
              case measure => simp [intOf]; omega
          · obtain rfl : k = cs.length := by omega
            have HP2 := Lib.hid (HP.out.move HB.out)
            cases hat : atK cs x cs.length with
            | none =>
              have HN : Hid (¬ Played cs os) := Lib.hid (not_played (by omega) HP.out.reach (fun k' K' V' r h1 => by rw [← HX.out, hat] at h1; cases h1))
              clear hat
              go_wp2_with fail
              go_ret
              exact ⟨HW.out.1.trans (HP2.out.below.mono (below_size HW.out.1)), _, rfl, ⟨(fun q => by cases q), fun q => absurd q HN.out⟩⟩
            | some a =>
              have hal := atK_lt hat
              have HAT := Lib.hid hat
              clear hat
              rw [show atI (some a) = (a : Int) from rfl]
              clear HB hkl hk
              obtain ⟨wA, hwA⟩ : ∃ wA, wA = wr := ⟨_, rfl⟩
              subst hwA
              go_wp2_with fail
              rw [show decide ((a : Int) < 0) = false from decide_eq_false (by omega)]
              go_loopw [12] (fun s12 wr => ∃ j : Nat, j ≤ bef.length ∧ s12 = .int .i64 j ∧ clearB x (rd_T70 cs a).f1 bef j ∧ Below wA.heap.size wA wr) (fun s12 _ => bef.length - (intOf s12).toNat)
              case atStart => exact ⟨0, Nat.zero_le _, rfl, (fun j q => by omega), Below.refl _ _⟩
              case round =>
                obtain ⟨j, hj, rfl, hcl2, hB⟩ := hrel
                have HC2 := Lib.hid hcl2
                have HP3 := Lib.hid (HP2.out.move hB)
                have HBA := Lib.hid hB
                have hjb : j ≤ 2147483647 := by have := HBL.out; omega
                have HBB := Lib.hid HP3.out.below
                clear hB hcl2
                by_cases hjl : j < bef.length
                · have hjD : decide ((j : Int) < (bef.length : Int)) = true := by simp; omega
                  obtain ⟨ac, E7, e7, E8, e8, hA3, q0, q1, q2, q3, q4, q5, q6, q7, q8, _, _, _, _⟩ := at_T70 (w := wr) (Kd.C_below HW.out.2.1 HBB.out) a (by omega) (by omega)
                  subst hA3
                  obtain ⟨ao, hAo, y0⟩ := Kd.at_int (w := wr) (Kd.C_below (Kd.C_below HO.out.1 HW.out.1) HBB.out) i (by omega) (by omega)
                  subst hAo
                  obtain ⟨A8', c8', he8, _, hC8⟩ := (HP3.out.row.imp_ (fun _ _ => k70.K_below HBB.out)).reads
                  cases he8
                  obtain ⟨ab, F7, f7, F8, f8, hA8, z0, z1, z2, z3, z4, z5, z6, z7, z8, _, _, _, _⟩ := at_T70 (w := wr) hC8 j (by omega) (by omega)
                  subst hA8
                  clear hC8
                  have hrd : rd os (i : Int) = x := by rw [HX.out]; rfl
                  rw [hrd] at y0
                  simp only [Int.toNat_natCast] at q1 y0 z0
                  clear q0 q2 q3 q4 q5 q6 q7 q8 hrd z1 z2 z3 z4 z5 z6 z7 z8
                  have haD : decide ((a : Int) < (cs.length : Int)) = true := by simp; omega
                  by_cases hq : (rd_T70 bef j).f0 = x
                  · have hqD : ((rd_T70 bef j).f0 == x) = true := beq_iff_eq.2 hq
                    go_wp2_with fail
                    have HN : Hid (¬ Played cs os) := Lib.hid (not_played (by omega) HP.out.reach (fun k' K' V' r h1 h2 => by
                      rw [← HX.out, HAT.out] at h1
                      cases h1
                      rw [← HX.out] at h2
                      have := h2 j hjl
                      exact (this.1 hq).elim))
                    go_quiet (fail)
                    go_wp2_with fail
                    go_ret
                    exact ⟨pw_below_drewN (HW.out.1.trans (HBB.out.mono (below_size HW.out.1))) _, _, rfl, ⟨(fun q => by cases q), fun q => absurd q HN.out⟩⟩
                  · have hqD : ((rd_T70 bef j).f0 == x) = false := beq_eq_false_iff_ne.mpr hq
                    by_cases hq2 : (rd_T70 cs a).f1 < (rd_T70 bef j).f0
                    · have hq2D : decide ((rd_T70 cs a).f1 < (rd_T70 bef j).f0) = true := decide_eq_true hq2
                      go_wp2_with fail
                      have HN : Hid (¬ Played cs os) := Lib.hid (not_played (by omega) HP.out.reach (fun k' K' V' r h1 h2 => by
                        rw [← HX.out, HAT.out] at h1
                        cases h1
                        rw [← HX.out] at h2
                        have := h2 j hjl
                        exact (this.2 hq2).elim))
                      go_quiet (fail)
                      go_wp2_with fail
                      go_ret
                      exact ⟨pw_below_drewN (HW.out.1.trans (HBB.out.mono (below_size HW.out.1))) _, _, rfl, ⟨(fun q => by cases q), fun q => absurd q HN.out⟩⟩
                    · have hq2D : decide ((rd_T70 cs a).f1 < (rd_T70 bef j).f0) = false := decide_eq_false hq2
                      have HQ2 := Lib.hid (And.intro hjl (And.intro hq hq2))
                      clear hq2
                      go_wp2_with fail
                      go_quiet (fail)
                      go_wp2_with fail
                      go_roundw
                      case rel =>
                        refine ⟨j + 1, HQ2.out.1, by go_num, fun m hm => ?_, pw_below_drewN HBA.out _⟩
                        rcases Nat.lt_or_ge m j with h | h
                        · exact HC2.out m h
                        · obtain rfl : m = j := by omega
                          exact ⟨HQ2.out.2.1, by have := HQ2.out.2.2; omega⟩
                      case measure => have := HQ2.out.1; simp [intOf]; omega
                · obtain rfl : j = bef.length := by omega
                  obtain ⟨ac, E7, e7, E8, e8, hA3, q0, q1, q2, q3, q4, q5, q6, q7, q8, l7, g7, l8, g8⟩ := at_T70 (w := wr) (Kd.C_below HW.out.2.1 HBB.out) a (by omega) (by omega)
                  subst hA3
                  have HG := Lib.hid (And.intro l7 (And.intro g7 (And.intro l8 g8)))
                  simp only [Int.toNat_natCast] at q0 q1 q2 q3 q4 q5 q6 q7 q8
                  have haD : decide ((a : Int) < (cs.length : Int)) = true := by simp; omega
                  clear q0 q1 q5 q6 q7 q8 l7 g7 l8 g8
                  go_wp2_with fail
                  clear q2 q3 q4
                  have hdo := rdo HP3.out.tab HP3.out.rising (by have := HP3.out.small; omega) (by have := below_size HP3.out.below; have := blk_lt HP3.out.tab.blk; omega) (rd_T70 cs (a : Nat)).f2
                  refine hdo.mono ?_
                  clear hdo
                  rintro e w3 ⟨K', V', vk', vv', r, A2, c2, A3, c3', hD, rfl, l2, k2, l3, k3, ht3, hr3, hon⟩
                  have hb3 : Below w1.heap.size wr w3 := hon.below (below_size HBB.out) (fun b hb => by
                    rcases hb with rfl | hb | hb
                    · exact Nat.le_refl _
                    · have := (HP3.out.tab.keys.lt b hb).1; omega
                    · have := (HP3.out.tab.vals.lt b hb).1; omega)
                  have HB3 := Lib.hid (HBB.out.trans hb3)
                  obtain ⟨inner, hro, hre⟩ := HP3.out.row
                  have hrow3 : OwnRow (k70.K w1) 70 9 w3 w1.heap.size (.slice A8 bef.length c8) bef := ⟨inner, hon.row hro (row_apart HP3.out.tab hro), hre⟩
                  have hdr := does_reply hD HP3.out.tab.len
                  have hdl := does_len hD
                  have H3 := Lib.hid (And.intro hD (And.intro ht3 (And.intro hr3 (And.intro hrow3 (And.intro hdr hdl)))))
                  clear hD ht3 hr3 hon hb3 hro hre hrow3 hdr hdl
                  have H4 := Lib.hid (And.intro l2 (And.intro k2 (And.intro l3 k3)))
                  clear l2 k2 l3 k3
                  have hbw3 := HW.out.1.trans (HB3.out.mono (below_size HW.out.1))
                  have HBW3 := Lib.hid hbw3
                  clear hbw3
                  obtain ⟨bq, hq1, hq2⟩ := eqreply_some r (rd_T70 cs (a : Nat)).f3 H3.out.2.2.2.2.1.1 (by have := H3.out.2.2.2.2.1.2; have := HP3.out.small; omega)
                  obtain ⟨ac', E7', e7', E8', e8', hA3, q0, q1, q2, q3, q4, q5, q6, q7, q8, l7, g7, l8, g8⟩ := at_T70 (w := w3) (Kd.C_below HW.out.2.1 HB3.out) a (by omega) (by omega)
                  cases hA3
                  have HG3 := Lib.hid (And.intro l7 (And.intro g7 (And.intro l8 g8)))
                  clear l7 g7 l8 g8
                  simp only [Int.toNat_natCast] at q0 q1 q2 q3 q4 q5 q6 q7 q8
                  have HQ := Lib.hid (And.intro hq1 hq2)
                  clear hq1 hq2
                  go_wp2_with fail
                  refine nameW ?_
                  intro V hV
                  have hVb : Below w3.heap.size w3 V := by rw [hV]; exact below_alloc (Below.refl _ _) _
                  have hbx : V.heap[w3.heap.size]? = some (.cells #[.bool r.f0, .string r.f1, .slice A2 r.f2.length c2, .slice A3 r.f3.length c3'] 43 (0, 0)) := by rw [hV]; exact new_blk _
                  have mv : ∀ {p : Addr} {u : Value}, w3.cell? p = some u → V.cell? p = some u := fun h => (hVb.cell (World.block_lt_of_cell? w3 _ h)).trans h
                  have HV := Lib.hid (And.intro hVb hbx)
                  have y0 := blk_cell hbx (i := 0) rfl
                  have y1 := blk_cell hbx (i := 1) rfl
                  have y2 := blk_cell hbx (i := 2) rfl
                  have y3 := blk_cell hbx (i := 3) rfl
                  replace q5 := mv q5
                  replace q6 := mv q6
                  replace q7 := mv q7
                  replace q8 := mv q8
                  clear mv hVb hbx hV q0 q1 q2 q3 q4
                  refine wp_region_still_tail 6 (by kernel_rfl) (by kernel_rfl) ?_
                  simp only [List.take_succ_cons, List.take_zero, List.drop_succ_cons, List.drop_zero]
                  repeat still_step
                  refine wpStill_nil ?_
                  go_wp2_with fail
                  have HVd := Lib.hid (show Below w3.heap.size w3 V.drew from below_drew1 HV.out.1)
                  have HBV := Lib.hid (HBW3.out.trans (HVd.out.mono (below_size HBW3.out)))
                  have HBV1 := Lib.hid (HB3.out.trans (HVd.out.mono (below_size HB3.out)))
                  refine (fugueref00_EqReply.calls (r.f2.length + 1) r.f0 r.f1 A2 c2 r.f2 A3 c3' r.f3 (rd_T70 cs (a : Nat)).f3.f0 (rd_T70 cs (a : Nat)).f3.f1 E7' e7' (rd_T70 cs (a : Nat)).f3.f2 E8' e8' (rd_T70 cs (a : Nat)).f3.f3 bq _ (Kd.C_below H4.out.2.1 HVd.out) H4.out.1 (Kd.C_below H4.out.2.2.2 HVd.out) H4.out.2.2.1 (Kd.C_below HG3.out.2.1 HVd.out) HG3.out.1 (Kd.C_below HG3.out.2.2.2 HVd.out) HG3.out.2.2.1 HQ.out.1).mono ?_
                  rintro e w4 ⟨rfl, hb4⟩
                  have HB4 := Lib.hid (HBV1.out.trans (hb4.mono (below_size HBV1.out)))
                  have H44 := Lib.hid hb4
                  clear hb4 y0 y1 y2 y3 q5 q6 q7 q8
                  cases bq with
                  | false =>
                    have HN : Hid (¬ Played cs os) := Lib.hid (not_played (by omega) HP.out.reach (fun k' K2 V2 r2 h1 _ h3 h4 => by
                      rw [← HX.out, HAT.out] at h1
                      cases h1
                      obtain ⟨_, _, rfl⟩ := does_one H3.out.1 h3
                      have := HQ.out.2.2 h4
                      cases this))
                    go_wp2_with fail
                    go_ret
                    exact ⟨HW.out.1.trans (HB4.out.mono (below_size HW.out.1)), _, rfl, ⟨(fun q => by cases q), fun q => absurd q HN.out⟩⟩
                  | true =>
                    obtain ⟨ac', F7, f7, F8, f8, hA3, q0, q1, q2, q3, q4, q5, q6, q7, q8, l7, g7, l8, g8⟩ := at_T70 (w := w1) HW.out.2.1 a (by omega) (by omega)
                    cases hA3
                    have mv : ∀ {p : Addr} {u : Value}, w1.cell? p = some u → w4.cell? p = some u := fun h => (HB4.out.cell (World.block_lt_of_cell? w1 _ h)).trans h
                    simp only [Int.toNat_natCast] at q0 q1 q2 q3 q4 q5 q6 q7 q8
                    replace q0 := mv q0
                    replace q1 := mv q1
                    replace q2 := mv q2
                    replace q3 := mv q3
                    replace q4 := mv q4
                    replace q5 := mv q5
                    replace q6 := mv q6
                    replace q7 := mv q7
                    replace q8 := mv q8
                    clear mv
                    have HG6 := Lib.hid (And.intro l7 (And.intro g7 (And.intro l8 g8)))
                    clear l7 g7 l8 g8
                    have h34 : Below w3.heap.size w3 w4 := HVd.out.trans (H44.out.mono (below_size HVd.out))
                    have HR4 := Lib.hid (And.intro (H3.out.2.2.2.1.below h34) (H3.out.2.1.below h34))
                    have HSM := Lib.hid HP3.out.small
                    clear h34
                    go_wp2_with (refine OwnRow.append (w0 := w1) w1.heap.size rfl (.tmp 95) (.tmp 100) 30 70 _ 9 120 rfl Try.underlying30 info_call23 rfl (by decide) (by decide) _ bef (rd_T70 cs (a : Nat)) _ rfl rfl (k70_mk w1 (rd_T70 cs (a : Nat)) HG6.out.1 HG6.out.2.1 HG6.out.2.2.1 HG6.out.2.2.2) rfl (by intro u hu; simp at hu; rcases hu with rfl | rfl | rfl | rfl | rfl | rfl | rfl | rfl | rfl <;> rfl) HR4.out.1 HB4.out (below_size HB4.out) (by have := HBL.out; omega) ?_; intro v1 w5 hO3 hB3 hg3 hat3; have HO3 := Lib.hid (And.intro hO3 (And.intro hB3 hg3)); clear hO3 hB3 hg3 hat3)
                    go_roundw
                    case rel =>
                      refine ⟨i + 1, bef ++ [rd_T70 cs (a : Nat)], K', V', vk', vv', by omega, by go_num, ?_⟩
                      obtain ⟨inn, hin, _⟩ := HR4.out.1
                      exact ⟨.step HP.out.reach (by rw [← HX.out]; exact HAT.out) (by rw [← HX.out]; exact HC2.out) H3.out.1 (HQ.out.2.1 (by first | trivial | rfl)), HO3.out.1, HR4.out.2.grown hin HO3.out.2.2, H3.out.2.2.1, by have := H3.out.2.2.2.2.2; have := HSM.out; omega, HO3.out.2.1⟩
                    case measure => simp [intOf]; omega
      · obtain rfl : i = cs.length := by omega
        have HY : Hid (Played cs os) := Lib.hid ⟨hle, bef, K, V, by rw [hle]; exact HP.out.reach⟩
        go_wp2_with fail
        go_ret
        exact ⟨HW.out.1.trans (HP.out.below.mono (below_size HW.out.1)), _, rfl, fun _ => HY.out, fun _ => rfl⟩
  · have heD : ((os.length : Int) == (cs.length : Int)) = false := beq_eq_false_iff_ne.mpr (by omega)
    go_wp2_with fail
    go_ret
    exact ⟨HW.out.1, _, rfl, ⟨(fun q => by cases q), fun q => absurd q.1 hle⟩⟩
theorem begins_eq (m : S45) (h2 : m.f3.f2.length ≤ 2147483647) (h3 : m.f3.f3.length ≤ 2147483647) : beginsB m = (opB m.f2 && zeroR m.f3) := by
  have h := begins_some m
  have hw : wrap64 ((m.f3.f2.length : Int) + (m.f3.f3.length : Int)) = (m.f3.f2.length : Int) + (m.f3.f3.length : Int) := by unfold wrap64; omega
  unfold hist_begins.f at h
  rw [hw] at h
  have hj : ∀ b, hist_begins.j0 1 b m.f2.f0 m.f2.f1 m.f2.f2 = some (if b = true then false else opB m.f2) := by
    intro b
    simp only [hist_begins.j0, opB]
    cases b
    · simp only [Bool.false_eq_true, if_false]
      by_cases c1 : m.f2.f0 = 1
      · rw [if_pos c1, if_pos c1]
      · rw [if_neg c1, if_neg c1]
        by_cases c2 : m.f2.f0 = 2
        · rw [if_pos c2, if_pos c2]
        · rw [if_neg c2, if_neg c2]
          by_cases c3 : m.f2.f0 = 3
          · rw [if_pos c3, if_pos c3, c3]
            simp [Bool.and_comm]
          · rw [if_neg c3, if_neg c3]
    · rfl
  simp only [hj] at h
  unfold zeroR
  cases q0 : m.f3.f0 with
  | true =>
    rw [q0, if_pos rfl] at h
    rw [← Option.some.inj h]
    simp
  | false =>
    rw [q0, if_neg (by simp)] at h
    by_cases q1 : m.f3.f1.toList = ([] : List UInt8)
    · rw [if_pos q1] at h
      rw [← Option.some.inj h, q1]
      by_cases q2 : m.f3.f2.length = 0
      · by_cases q3 : m.f3.f3.length = 0
        · simp [q2, q3]
        · rw [if_pos (by simp; omega), decide_eq_false q3]
          simp
      · rw [if_pos (by simp; omega), decide_eq_false q2]
        simp
    · rw [if_neg q1] at h
      have : (m.f3.f1.toList == ([] : List UInt8)) = false := beq_eq_false_iff_ne.mpr q1
      rw [← Option.some.inj h, this]
      simp
theorem asc01 (l : List Int) : ascFrom l 0 = ascFrom l 1 := decide_eq_decide.2 ⟨fun h j a _ c => h j a (Nat.zero_le _) c, fun h j a _ c => h j a c c⟩
theorem ends_eq (o : S40) (r : S43) (ho : opB o = true) (h2 : r.f2.length ≤ 2147483647) (h3 : r.f3.length ≤ 2147483647) : endsB o r = replyB o r := by
  have h := ends_some o r (by omega)
  have hl := ends_loop r (by omega) (r.f2.length + 1) 0 (Nat.zero_le _) (by omega)
  have hw : wrap64 ((r.f2.length : Int) + (r.f3.length : Int)) = (r.f2.length : Int) + (r.f3.length : Int) := by unfold wrap64; omega
  have hz : (!decide ((r.f2.length : Int) + (r.f3.length : Int) > 0)) = (decide (r.f2.length = 0) && decide (r.f3.length = 0)) := by
    by_cases a : r.f2.length = 0
    · by_cases b : r.f3.length = 0
      · simp [a, b]
      · rw [decide_eq_true (by omega), decide_eq_false b]; simp
    · rw [decide_eq_true (by omega), decide_eq_false a]; simp
  unfold hist_ends.f at h
  rw [hw, hz] at h
  unfold replyB
  have hk : o.f0 = 1 ∨ o.f0 = 2 ∨ o.f0 = 3 := by
    unfold opB at ho
    by_cases c1 : o.f0 = 1
    · exact .inl c1
    · by_cases c2 : o.f0 = 2
      · exact .inr (.inl c2)
      · by_cases c3 : o.f0 = 3
        · exact .inr (.inr c3)
        · rw [if_neg c1, if_neg c2, if_neg c3] at ho; cases ho
  rcases hk with k | k | k
  · rw [if_pos k] at h
    rw [if_neg (by omega), k]
    by_cases q : r.f1.toList = ([] : List UInt8)
    · rw [if_pos q] at h
      rw [← Option.some.inj h, q]
      simp
    · rw [if_neg q] at h
      rw [← Option.some.inj h, show (r.f1.toList == ([] : List UInt8)) = false from beq_eq_false_iff_ne.mpr q]
      simp
  · rw [if_neg (by omega), if_pos k] at h
    rw [if_neg (by omega), k]
    cases q0 : r.f0 with
    | true =>
      rw [q0, if_pos rfl] at h
      rw [← Option.some.inj h]
      simp
    | false =>
      rw [q0, if_neg (by simp)] at h
      by_cases q : r.f1.toList = ([] : List UInt8)
      · rw [if_pos q] at h
        rw [← Option.some.inj h, q]
        simp
      · rw [if_neg q] at h
        rw [← Option.some.inj h, show (r.f1.toList == ([] : List UInt8)) = false from beq_eq_false_iff_ne.mpr q]
        simp
  · rw [if_neg (by omega), if_neg (by omega)] at h
    rw [if_pos k]
    rw [show (0 : Int) = ((0 : Nat) : Int) from rfl, hl] at h
    rw [← Option.some.inj h, asc01]
    unfold tailB
    cases r.f0 <;> cases (r.f1.toList == ([] : List UInt8)) <;> cases decide (r.f2.length = r.f3.length) <;> cases ascFrom r.f2 1 <;> rfl
/-- the moment q ends rightly the call that m begins -/
def EndsM (l0 : List S45) (m : S45) (q : Nat) : Prop := (rd_T45 l0 (q : Nat)).f1 = false ∧ opEq (rd_T45 l0 (q : Nat)).f2 m.f2 ∧ replyB m.f2 (rd_T45 l0 (q : Nat)).f3 = true
theorem endAt_iff {l0 : List S45} {m : S45} {q : Nat} : ∀ (d k : Nat), k + d = l0.length →
    (endAt l0 m (l0.length - k) k = some q ↔ k ≤ q ∧ q < l0.length ∧ (rd_T45 l0 (q : Nat)).f0 = m.f0 ∧ EndsM l0 m q ∧ ∀ j, k ≤ j → j < q → (rd_T45 l0 (j : Nat)).f0 ≠ m.f0) := by
  intro d
  induction d with
  | zero =>
    intro k hk
    obtain rfl : k = l0.length := by omega
    rw [endAt_end]
    exact ⟨(fun h => by cases h), fun h => by omega⟩
  | succ d ih =>
    intro k hk
    by_cases hc : (rd_T45 l0 (k : Nat)).f0 = m.f0
    · rw [endAt_here (by omega) hc]
      constructor
      · intro h
        split at h
        · rename_i hh
          cases h
          exact ⟨Nat.le_refl _, by omega, hc, hh, fun j a b => by omega⟩
        · cases h
      · rintro ⟨h1, h2, h3, h4, h5⟩
        obtain rfl : k = q := by
          rcases Nat.eq_or_lt_of_le h1 with e | e
          · exact e
          · exact absurd hc (h5 k (Nat.le_refl _) e)
        exact if_pos h4
    · rw [endAt_next (by omega) hc, ih (k + 1) (by omega)]
      constructor
      · rintro ⟨h1, h2, h3, h4, h5⟩
        refine ⟨by omega, h2, h3, h4, fun j a b => ?_⟩
        rcases Nat.eq_or_lt_of_le a with e | e
        · subst e; exact hc
        · exact h5 j e b
      · rintro ⟨h1, h2, h3, h4, h5⟩
        refine ⟨?_, h2, h3, h4, fun j a b => h5 j (by omega) b⟩
        rcases Nat.eq_or_lt_of_le h1 with e | e
        · subst e; exact absurd h3 hc
        · exact e
/-- what a call of the document is -/
def CallOf (l0 : List S45) (i : Nat) (c : S70) : Prop :=
  ∃ p q : Nat, p < i ∧ (rd_T45 l0 (p : Nat)).f1 = true ∧ opB (rd_T45 l0 (p : Nat)).f2 = true ∧ zeroR (rd_T45 l0 (p : Nat)).f3 = true ∧ endAt l0 (rd_T45 l0 (p : Nat)) (l0.length - (p + 1)) (p + 1) = some q ∧ c = ⟨(p : Int), (q : Int), (rd_T45 l0 (p : Nat)).f2, (rd_T45 l0 (q : Nat)).f3⟩
/-- a history within the bound of the document -/
def ShortH (l0 : List S45) : Prop := l0.length ≤ 2147483647 ∧ ∀ j, j < l0.length → (rd_T45 l0 (j : Nat)).f3.f2.length ≤ 2147483647 ∧ (rd_T45 l0 (j : Nat)).f3.f3.length ≤ 2147483647
abbrev mo (l0 : List S45) (p : Nat) : S45 := rd_T45 l0 ((p : Nat) : Int)
theorem mo_at {l0 : List S45} {p : Nat} (h : p < l0.length) : l0[p]? = some (mo l0 p) := by
  unfold mo rd_T45
  rw [Int.toNat_natCast, List.getD_eq_getElem?_getD, List.getElem?_eq_getElem h]
  rfl
def Endq (l0 : List S45) (p q : Nat) : Prop := p < q ∧ q < l0.length ∧ (mo l0 q).f0 = (mo l0 p).f0 ∧ EndsM l0 (mo l0 p) q ∧ ∀ j, p < j → j < q → (mo l0 j).f0 ≠ (mo l0 p).f0
theorem endq_iff {l0 : List S45} {p q : Nat} (h : p < l0.length) : endAt l0 (mo l0 p) (l0.length - (p + 1)) (p + 1) = some q ↔ Endq l0 p q := by
  refine (endAt_iff (l0.length - (p + 1)) (p + 1) (by omega)).trans ⟨fun ⟨a, b, c, d, e⟩ => ⟨a, b, c, d, fun j x y => e j x y⟩, fun ⟨a, b, c, d, e⟩ => ⟨a, b, c, d, fun j x y => e j x y⟩⟩
theorem Endq.one {l0 : List S45} {p q r : Nat} (h : Endq l0 p q) (g : Endq l0 p r) : q = r := by
  rcases Nat.lt_trichotomy q r with a | a | a
  · exact absurd h.2.2.1 (g.2.2.2.2 q h.1 a)
  · exact a
  · exact absurd g.2.2.1 (h.2.2.2.2 r g.1 a)
theorem Endq.inj {l0 : List S45} {p r q : Nat} (h : Endq l0 p q) (g : Endq l0 r q) : p = r := by
  rcases Nat.lt_trichotomy p r with a | a | a
  · exact absurd (g.2.2.1.symm.trans h.2.2.1) (h.2.2.2.2 r a g.1)
  · exact a
  · exact absurd (h.2.2.1.symm.trans g.2.2.1) (g.2.2.2.2 p a h.1)
theorem beg_mono (l0 : List S45) {p q : Nat} (h : p ≤ q) : begCount l0 p ≤ begCount l0 q := by
  induction h with
  | refl => exact Nat.le_refl _
  | @step m _ ih => exact Nat.le_trans ih (by show _ ≤ begCount l0 m + _; omega)
theorem beg_succ {l0 : List S45} {p : Nat} (h : (mo l0 p).f1 = true) : begCount l0 (p + 1) = begCount l0 p + 1 := by
  show begCount l0 p + (if (rd_T45 l0 (p : Nat)).f1 = true then 1 else 0) = _
  rw [if_pos h]
theorem beg_same {l0 : List S45} {p : Nat} (h : (mo l0 p).f1 = false) : begCount l0 (p + 1) = begCount l0 p := by
  show begCount l0 p + (if (rd_T45 l0 (p : Nat)).f1 = true then 1 else 0) = _
  rw [if_neg (by rw [show (rd_T45 l0 (p : Nat)).f1 = false from h]; simp), Nat.add_zero]
theorem beg_lt {l0 : List S45} {p q : Nat} (h : (mo l0 p).f1 = true) (hq : p < q) : begCount l0 p < begCount l0 q := by
  have := beg_mono l0 (show p + 1 ≤ q from hq)
  rw [beg_succ h] at this
  omega
theorem beg_inj {l0 : List S45} {p q : Nat} (h : (mo l0 p).f1 = true) (g : (mo l0 q).f1 = true) (e : begCount l0 p = begCount l0 q) : p = q := by
  rcases Nat.lt_trichotomy p q with a | a | a
  · have := beg_lt h a; omega
  · exact a
  · have := beg_lt g a; omega
theorem opEq_eq {a b : S40} (h : opEq a b) : a = b := by
  obtain ⟨h1, h2, h3⟩ := h
  cases a; cases b
  simp_all
/-- the state of reading, in words of places -/
structure RI (l0 : List S45) (i : Nat) (s : RS) : Prop where
  len : s.calls.length = begCount l0 i
  here : ∀ p, p < i → (mo l0 p).f1 = true → (opB (mo l0 p).f2 = true ∧ zeroR (mo l0 p).f3 = true) ∧
    ((∃ q, q < i ∧ Endq l0 p q ∧ rd_T70 s.calls (begCount l0 p : Nat) = ⟨(p : Nat), (q : Nat), (mo l0 p).f2, (mo l0 q).f3⟩) ∨
      (s.opn (mo l0 p).f0 = some (begCount l0 p) ∧ rd_T70 s.calls (begCount l0 p : Nat) = ⟨(p : Nat), 0, (mo l0 p).f2, z43⟩ ∧ ∀ j, p < j → j < i → (mo l0 j).f0 ≠ (mo l0 p).f0))
  opn : ∀ c k, s.opn c = some k → ∃ p, p < i ∧ (mo l0 p).f1 = true ∧ k = begCount l0 p ∧ (mo l0 p).f0 = c ∧ rd_T70 s.calls (k : Nat) = ⟨(p : Nat), 0, (mo l0 p).f2, z43⟩ ∧ ∀ j, p < j → j < i → (mo l0 j).f0 ≠ c
  ends : ∀ e, e < i → (mo l0 e).f1 = false → ∃ p, (mo l0 p).f1 = true ∧ Endq l0 p e
theorem ri_zero (l0 : List S45) : RI l0 0 ⟨[], fun _ => none⟩ := ⟨rfl, (fun p h => by omega), (fun c k h => by cases h), (fun e h => by omega)⟩
theorem upd1_self {f : Int → Option Nat} {k : Int} {v : Option Nat} : upd1 f k v k = v := if_pos rfl
theorem upd1_ne {f : Int → Option Nat} {k j : Int} {v : Option Nat} (h : j ≠ k) : upd1 f k v j = f j := if_neg h
theorem ri_begin {l0 : List S45} (hs : ShortH l0) {i : Nat} {s : RS} (h : RI l0 i s) (hi : i < l0.length) (hb : (mo l0 i).f1 = true) (ho : s.opn (mo l0 i).f0 = none) (hg : beginsB (mo l0 i) = true) :
    RI l0 (i + 1) ⟨s.calls ++ [⟨(i : Nat), 0, (mo l0 i).f2, z43⟩], upd1 s.opn (mo l0 i).f0 (some s.calls.length)⟩ := by
  have hlen := h.len
  have hB := begins_eq (mo l0 i) (hs.2 i hi).1 (hs.2 i hi).2
  rw [hg] at hB
  have hB2 := (Bool.and_eq_true _ _).mp hB.symm
  have hself : rd_T70 (s.calls ++ [⟨(i : Nat), 0, (mo l0 i).f2, z43⟩]) (begCount l0 i : Nat) = ⟨(i : Nat), 0, (mo l0 i).f2, z43⟩ := by
    rw [rd_app (by omega), if_neg (by omega)]
  have hold : ∀ p, p < i → (mo l0 p).f1 = true → rd_T70 (s.calls ++ [⟨(i : Nat), 0, (mo l0 i).f2, z43⟩]) (begCount l0 p : Nat) = rd_T70 s.calls (begCount l0 p : Nat) := fun p hp hpb => by
    have := beg_lt hpb hp
    rw [rd_app (by omega), if_pos (by omega)]
  refine ⟨by rw [List.length_append, List.length_singleton, hlen, beg_succ hb], fun p hp hpb => ?_, fun c k hc => ?_, fun e he heb => ?_⟩
  · rcases Nat.lt_or_ge p i with a | a
    · obtain ⟨h1, h2⟩ := h.here p a hpb
      refine ⟨h1, ?_⟩
      rcases h2 with ⟨q, q1, q2, q3⟩ | ⟨q1, q2, q3⟩
      · exact .inl ⟨q, by omega, q2, (hold p a hpb).trans q3⟩
      · have hne : (mo l0 p).f0 ≠ (mo l0 i).f0 := fun e => by rw [e, ho] at q1; cases q1
        refine .inr ⟨(upd1_ne hne).trans q1, (hold p a hpb).trans q2, fun j j1 j2 => ?_⟩
        rcases Nat.lt_or_ge j i with b | b
        · exact q3 j j1 b
        · obtain rfl : j = i := by omega
          exact fun e => hne e.symm
    · obtain rfl : p = i := by omega
      exact ⟨hB2, .inr ⟨by rw [← hlen]; exact upd1_self, hself, fun j j1 j2 => by omega⟩⟩
  · by_cases hcc : c = (mo l0 i).f0
    · subst hcc
      have : k = begCount l0 i := by
        have := (upd1_self (f := s.opn) (k := (mo l0 i).f0) (v := some s.calls.length)).symm.trans hc
        have := Option.some.inj this
        omega
      subst this
      exact ⟨i, by omega, hb, rfl, rfl, hself, fun j j1 j2 => by omega⟩
    · obtain ⟨p, p1, p2, p3, p4, p5, p6⟩ := h.opn c k ((upd1_ne hcc).symm.trans hc)
      subst p3
      refine ⟨p, by omega, p2, rfl, p4, (hold p p1 p2).trans p5, fun j j1 j2 => ?_⟩
      rcases Nat.lt_or_ge j i with b | b
      · exact p6 j j1 b
      · obtain rfl : j = i := by omega
        exact fun e => hcc e.symm
  · rcases Nat.lt_or_ge e i with a | a
    · exact h.ends e a heb
    · obtain rfl : e = i := by omega
      rw [hb] at heb
      cases heb
theorem ri_end {l0 : List S45} (hs : ShortH l0) {i : Nat} {s : RS} (h : RI l0 i s) (hi : i < l0.length) (hb : (mo l0 i).f1 = false) {k : Nat} (ho : s.opn (mo l0 i).f0 = some k) (hq : opEq (rd_T70 s.calls k).f2 (mo l0 i).f2) (hg : endsB (mo l0 i).f2 (mo l0 i).f3 = true) :
    RI l0 (i + 1) ⟨s.calls.set k ⟨(rd_T70 s.calls k).f0, (i : Nat), (rd_T70 s.calls k).f2, (mo l0 i).f3⟩, upd1 s.opn (mo l0 i).f0 none⟩ := by
  have hlen := h.len
  obtain ⟨p, p1, p2, p3, p4, p5, p6⟩ := h.opn _ k ho
  have hkl : k < s.calls.length := by
    have := beg_lt p2 p1
    omega
  rw [p5] at hq ⊢
  have hop : (mo l0 p).f2 = (mo l0 i).f2 := opEq_eq hq
  have hopB := (h.here p p1 p2).1.1
  have hrep : replyB (mo l0 p).f2 (mo l0 i).f3 = true := by
    rw [hop] at hopB ⊢
    rw [← ends_eq _ _ hopB (hs.2 i hi).1 (hs.2 i hi).2]
    exact hg
  have hE : Endq l0 p i := ⟨p1, hi, p4.symm, ⟨hb, by rw [hop]; exact ⟨rfl, rfl, rfl⟩, hrep⟩, fun j a b => fun e => p6 j a b (e.trans p4)⟩
  have hoth : ∀ r, r < i → (mo l0 r).f1 = true → r ≠ p → rd_T70 (s.calls.set k ⟨(p : Nat), (i : Nat), (mo l0 p).f2, (mo l0 i).f3⟩) (begCount l0 r : Nat) = rd_T70 s.calls (begCount l0 r : Nat) := fun r hr hrb hne => by
    rw [rd_set hkl, if_neg (fun e => hne (beg_inj hrb p2 (e.trans p3)))]
  refine ⟨by rw [List.length_set, hlen, beg_same hb], fun r hr hrb => ?_, fun c m hc => ?_, fun e he heb => ?_⟩
  · rcases Nat.lt_or_ge r i with a | a
    · by_cases hrp : r = p
      · subst hrp
        refine ⟨(h.here r a hrb).1, .inl ⟨i, by omega, hE, ?_⟩⟩
        rw [rd_set hkl, if_pos p3.symm]
      · obtain ⟨h1, h2⟩ := h.here r a hrb
        refine ⟨h1, ?_⟩
        rcases h2 with ⟨q, q1, q2, q3⟩ | ⟨q1, q2, q3⟩
        · exact .inl ⟨q, by omega, q2, (hoth r a hrb hrp).trans q3⟩
        · have hne : (mo l0 r).f0 ≠ (mo l0 i).f0 := fun e => by
            rw [e, ho] at q1
            exact hrp (beg_inj hrb p2 (by rw [← p3]; exact (Option.some.inj q1).symm))
          refine .inr ⟨(upd1_ne hne).trans q1, (hoth r a hrb hrp).trans q2, fun j j1 j2 => ?_⟩
          rcases Nat.lt_or_ge j i with b | b
          · exact q3 j j1 b
          · obtain rfl : j = i := by omega
            exact fun e => hne e.symm
    · obtain rfl : r = i := by omega
      rw [hb] at hrb
      cases hrb
  · by_cases hcc : c = (mo l0 i).f0
    · subst hcc
      cases (upd1_self (f := s.opn) (k := (mo l0 i).f0) (v := none)).symm.trans hc
    · obtain ⟨r, r1, r2, r3, r4, r5, r6⟩ := h.opn c m ((upd1_ne hcc).symm.trans hc)
      subst r3
      have hrp : r ≠ p := fun e => by subst e; exact hcc (r4.symm.trans p4)
      refine ⟨r, by omega, r2, rfl, r4, (hoth r r1 r2 hrp).trans r5, fun j j1 j2 => ?_⟩
      rcases Nat.lt_or_ge j i with b | b
      · exact r6 j j1 b
      · obtain rfl : j = i := by omega
        exact fun e => hcc e.symm
  · rcases Nat.lt_or_ge e i with a | a
    · exact h.ends e a heb
    · obtain rfl : e = i := by omega
      exact ⟨p, p2, hE⟩
theorem ri_step {l0 : List S45} (hs : ShortH l0) {i : Nat} {s s' : RS} (h : RI l0 i s) (hi : i < l0.length) (hst : rstep i (mo l0 i) s = some s') : RI l0 (i + 1) s' := by
  unfold rstep at hst
  split at hst
  · rename_i hb
    split at hst
    · rename_i hh
      obtain rfl := Option.some.inj hst
      exact ri_begin hs h hi hb hh.1 hh.2
    · cases hst
  · rename_i hb
    have hb : (mo l0 i).f1 = false := by simpa using hb
    split at hst
    · cases hst
    · rename_i k hk
      split at hst
      · rename_i hh
        obtain rfl := Option.some.inj hst
        exact ri_end hs h hi hb hk hh.1 hh.2
      · cases hst
theorem ri_at {l0 : List S45} (hs : ShortH l0) : ∀ (i : Nat) (s : RS), i ≤ l0.length → rat l0 i = some s → RI l0 i s := by
  intro i
  induction i with
  | zero => intro s _ h; cases h; exact ri_zero l0
  | succ i ih =>
    intro s hi h
    rw [rat_succ l0 i _ (mo_at (show i < l0.length by omega))] at h
    obtain ⟨s1, h1, h2⟩ := Option.bind_eq_some_iff.1 h
    exact ri_step hs (ih s1 (by omega) h1) (by omega) h2
/-! ### counting -/
theorem nodup_len : ∀ {l1 l2 : List Nat}, l1.Nodup → (∀ x ∈ l1, x ∈ l2) → l1.length ≤ l2.length := by
  intro l1
  induction l1 with
  | nil => intro l2 _ _; exact Nat.zero_le _
  | cons a l1 ih =>
    intro l2 hn hm
    obtain ⟨h1, h2⟩ := List.nodup_cons.1 hn
    have ha := hm a (by simp)
    have := ih (l2 := l2.erase a) h2 fun x hx => (List.mem_erase_of_ne (fun e => h1 (by rw [← e]; exact hx))).2 (hm x (by simp [hx]))
    rw [List.length_erase_of_mem ha] at this
    have hp := List.length_pos_of_mem ha
    simp only [List.length_cons]
    omega
def begs (l0 : List S45) (i : Nat) : List Nat := (List.range i).filter fun p => (mo l0 p).f1
def endsL (l0 : List S45) (i : Nat) : List Nat := (List.range i).filter fun p => !(mo l0 p).f1
theorem begs_len (l0 : List S45) : ∀ i, (begs l0 i).length = begCount l0 i ∧ (endsL l0 i).length + begCount l0 i = i := by
  intro i
  induction i with
  | zero => exact ⟨rfl, rfl⟩
  | succ i ih =>
    unfold begs endsL at ih ⊢
    rw [List.range_succ, List.filter_append, List.filter_append, List.length_append, List.length_append]
    cases hb : (mo l0 i).f1 with
    | true =>
      rw [beg_succ hb]
      simp only [List.filter_cons, hb, List.filter_nil]
      simp
      omega
    | false =>
      rw [beg_same hb]
      simp only [List.filter_cons, hb, List.filter_nil]
      simp
      omega
theorem begs_mem {l0 : List S45} {i p : Nat} : p ∈ begs l0 i ↔ p < i ∧ (mo l0 p).f1 = true := by unfold begs; simp [List.mem_filter]
theorem ends_mem {l0 : List S45} {i p : Nat} : p ∈ endsL l0 i ↔ p < i ∧ (mo l0 p).f1 = false := by unfold endsL; simp [List.mem_filter]
theorem begs_nodup (l0 : List S45) (i : Nat) : (begs l0 i).Nodup := List.Pairwise.filter _ List.nodup_range
theorem endsL_nodup (l0 : List S45) (i : Nat) : (endsL l0 i).Nodup := List.Pairwise.filter _ List.nodup_range
def qOf (l0 : List S45) (p : Nat) : Nat := (endAt l0 (mo l0 p) (l0.length - (p + 1)) (p + 1)).getD 0
theorem qOf_eq {l0 : List S45} {p q : Nat} (h : Endq l0 p q) : qOf l0 p = q := by
  unfold qOf
  rw [(endq_iff (by have := h.1; have := h.2.1; omega)).2 h]
  rfl
/-- each call ends -/
def AllEnd (l0 : List S45) : Prop := ∀ p, p < l0.length → (mo l0 p).f1 = true → ∃ q, Endq l0 p q
/-- each end is a call's -/
def AllBeg (l0 : List S45) : Prop := ∀ e, e < l0.length → (mo l0 e).f1 = false → ∃ p, (mo l0 p).f1 = true ∧ Endq l0 p e
theorem qs_nodup {l0 : List S45} (h : AllEnd l0) : ((begs l0 l0.length).map (qOf l0)).Nodup := by
  refine List.pairwise_map.2 ?_
  refine List.Pairwise.imp_of_mem (fun {a b} ha hb hne => ?_) (begs_nodup l0 l0.length)
  obtain ⟨a1, a2⟩ := begs_mem.1 ha
  obtain ⟨b1, b2⟩ := begs_mem.1 hb
  obtain ⟨qa, hqa⟩ := h a a1 a2
  obtain ⟨qb, hqb⟩ := h b b1 b2
  rw [qOf_eq hqa, qOf_eq hqb]
  rintro rfl
  exact hne (hqa.inj hqb)
theorem qs_sub {l0 : List S45} (h : AllEnd l0) : ∀ x ∈ (begs l0 l0.length).map (qOf l0), x ∈ endsL l0 l0.length := by
  intro x hx
  obtain ⟨p, hp, rfl⟩ := List.mem_map.1 hx
  obtain ⟨p1, p2⟩ := begs_mem.1 hp
  obtain ⟨q, hq⟩ := h p p1 p2
  rw [qOf_eq hq]
  exact ends_mem.2 ⟨hq.2.1, hq.2.2.2.1.1⟩
theorem count_le {l0 : List S45} (h : AllEnd l0) : begCount l0 l0.length + begCount l0 l0.length ≤ l0.length := by
  have h1 := nodup_len (qs_nodup h) (qs_sub h)
  have h2 := begs_len l0 l0.length
  rw [List.length_map] at h1
  omega
theorem count_ge {l0 : List S45} (h : AllBeg l0) : l0.length ≤ begCount l0 l0.length + begCount l0 l0.length := by
  have h1 := nodup_len (l2 := (begs l0 l0.length).map (qOf l0)) (endsL_nodup l0 l0.length) fun x hx => by
    obtain ⟨x1, x2⟩ := ends_mem.1 hx
    obtain ⟨p, hp, hq⟩ := h x x1 x2
    exact List.mem_map.2 ⟨p, begs_mem.2 ⟨by have := hq.1; omega, hp⟩, qOf_eq hq⟩
  have h2 := begs_len l0 l0.length
  rw [List.length_map] at h1
  omega
theorem count_all {l0 : List S45} (h : AllEnd l0) (hc : l0.length ≤ begCount l0 l0.length + begCount l0 l0.length) : AllBeg l0 := by
  intro e e1 e2
  by_cases hm : e ∈ (begs l0 l0.length).map (qOf l0)
  · obtain ⟨p, hp, hpe⟩ := List.mem_map.1 hm
    obtain ⟨p1, p2⟩ := begs_mem.1 hp
    obtain ⟨q, hq⟩ := h p p1 p2
    rw [qOf_eq hq] at hpe
    subst hpe
    exact ⟨p, p2, hq⟩
  · have h1 := nodup_len (l1 := e :: (begs l0 l0.length).map (qOf l0)) (l2 := endsL l0 l0.length) (List.nodup_cons.2 ⟨hm, qs_nodup h⟩) fun x hx => by
      rcases List.mem_cons.1 hx with rfl | hx
      · exact ends_mem.2 ⟨e1, e2⟩
      · exact qs_sub h x hx
    have h2 := begs_len l0 l0.length
    rw [List.length_cons, List.length_map] at h1
    omega
/-! ### the two readings are one -/
theorem read_ref {l0 : List S45} (hs : ShortH l0) {cs : List S70} (h : readB l0 = some cs) : refB l0 = some cs := by
  unfold readB at h
  obtain ⟨s, h1, h2⟩ := Option.bind_eq_some_iff.1 h
  split at h2
  · rename_i hh
    obtain rfl := Option.some.inj h2
    have hI := ri_at hs l0.length s (Nat.le_refl _) h1
    have hend : ∀ p, p < l0.length → (mo l0 p).f1 = true → ∃ q, Endq l0 p q ∧ rd_T70 s.calls (begCount l0 p : Nat) = ⟨(p : Nat), (q : Nat), (mo l0 p).f2, (mo l0 q).f3⟩ := fun p a b => by
      rcases (hI.here p a b).2 with ⟨q, _, q2, q3⟩ | ⟨q1, _⟩
      · exact ⟨q, q2, q3⟩
      · rw [hh.1] at q1; cases q1
    have hA : AllEnd l0 := fun p a b => by
      obtain ⟨q, hq, _⟩ := hend p a b
      exact ⟨q, hq⟩
    have hB : AllBeg l0 := hI.ends
    have c1 := count_le hA
    have c2 := count_ge hB
    have hlen := hI.len
    have hcat : ∀ i, i ≤ l0.length → cat l0 i = some ⟨s.calls.take (begCount l0 i), i - begCount l0 i⟩ := by
      intro i
      induction i with
      | zero => intro _; simp [cat, begCount]
      | succ i ih =>
        intro hi
        show (cat l0 i).bind (cstep l0 i (rd_T45 l0 i)) = _
        rw [ih (by omega), Option.bind_some]
        have hle := begCount_le l0 i
        unfold cstep
        cases hb : (mo l0 i).f1 with
        | false =>
          rw [if_pos rfl, beg_same hb]
          show some (CS.mk _ (i - begCount l0 i + 1)) = some (CS.mk _ _)
          rw [show i - begCount l0 i + 1 = i + 1 - begCount l0 i by omega]
        | true =>
          obtain ⟨q, hq, hrd⟩ := hend i (by omega) hb
          have hlt : begCount l0 i < s.calls.length := by rw [hlen]; exact beg_lt hb (by omega)
          rw [if_neg (by simp), if_pos (hI.here i (by omega) hb).1, (endq_iff (by omega)).2 hq, beg_succ hb]
          have e1 : s.calls.take (begCount l0 i + 1) = s.calls.take (begCount l0 i) ++ [⟨(i : Nat), (q : Nat), (mo l0 i).f2, (mo l0 q).f3⟩] := by
            rw [List.take_add_one, ← hrd]
            unfold rd_T70
            rw [Int.toNat_natCast, List.getD_eq_getElem?_getD, List.getElem?_eq_getElem hlt]
            rfl
          rw [e1]
          show some (CS.mk _ (i - begCount l0 i)) = some (CS.mk _ _)
          rw [show i - begCount l0 i = i + 1 - (begCount l0 i + 1) by omega]
    unfold refB
    rw [if_neg (by have := hh.2; omega), hcat _ (Nat.le_refl _), Option.bind_some]
    dsimp only
    have e1 : s.calls.take (begCount l0 l0.length) = s.calls := List.take_of_length_le (by omega)
    rw [e1, if_pos (by omega)]
  · cases h2
theorem cat_begin {l0 : List S45} : ∀ (i : Nat) (s : CS), i ≤ l0.length → cat l0 i = some s → s.calls.length = begCount l0 i ∧ ∀ p, p < i → (mo l0 p).f1 = true → (opB (mo l0 p).f2 = true ∧ zeroR (mo l0 p).f3 = true) ∧ ∃ q, Endq l0 p q := by
  intro i
  induction i with
  | zero => intro s _ h; cases h; exact ⟨rfl, fun p h => by omega⟩
  | succ i ih =>
    intro s hi h
    obtain ⟨s1, h1, h2⟩ := Option.bind_eq_some_iff.1 h
    obtain ⟨i1, i2⟩ := ih s1 (by omega) h1
    unfold cstep at h2
    split at h2
    · rename_i hb
      obtain rfl := Option.some.inj h2
      refine ⟨by rw [beg_same hb]; exact i1, fun p hp hpb => ?_⟩
      rcases Nat.lt_or_ge p i with a | a
      · exact i2 p a hpb
      · obtain rfl : p = i := by omega
        rw [show (mo l0 p).f1 = false from hb] at hpb
        cases hpb
    · rename_i hb
      split at h2
      · rename_i ho
        obtain ⟨k, hk, rfl⟩ := Option.map_eq_some_iff.1 h2
        have hb : (mo l0 i).f1 = true := by simpa using hb
        refine ⟨by rw [beg_succ hb]; simp [i1], fun p hp hpb => ?_⟩
        rcases Nat.lt_or_ge p i with a | a
        · exact i2 p a hpb
        · obtain rfl : p = i := by omega
          exact ⟨ho, k, (endq_iff (by omega)).1 hk⟩
      · cases h2
theorem ref_read {l0 : List S45} (hs : ShortH l0) {cs : List S70} (h : refB l0 = some cs) : ∃ cs', readB l0 = some cs' := by
  unfold refB at h
  split at h
  · cases h
  · rename_i h64
    obtain ⟨s, h1, h2⟩ := Option.bind_eq_some_iff.1 h
    split at h2
    · rename_i he
      obtain ⟨b1, b2⟩ := cat_begin l0.length s (Nat.le_refl _) h1
      have hl := cat_len l0.length s h1
      have hA : AllEnd l0 := fun p a b => (b2 p a b).2
      have hB : AllBeg l0 := count_all hA (by omega)
      have hrat : ∀ i, i ≤ l0.length → ∃ s, rat l0 i = some s := by
        intro i
        induction i with
        | zero => intro _; exact ⟨_, rat_zero l0⟩
        | succ i ih =>
          intro hi
          obtain ⟨t, ht⟩ := ih (by omega)
          have hI := ri_at hs i t (by omega) ht
          rw [rat_succ l0 i _ (mo_at (show i < l0.length by omega)), ht, Option.bind_some]
          unfold rstep
          cases hb : (mo l0 i).f1 with
          | true =>
            rw [if_pos rfl]
            have hbg : beginsB (mo l0 i) = true := by
              rw [begins_eq _ (hs.2 i (by omega)).1 (hs.2 i (by omega)).2, (b2 i (by omega) hb).1.1, (b2 i (by omega) hb).1.2]
              rfl
            have hop : t.opn (mo l0 i).f0 = none := by
              cases hk : t.opn (mo l0 i).f0 with
              | none => rfl
              | some k =>
                obtain ⟨p, p1, p2, p3, p4, p5, p6⟩ := hI.opn _ k hk
                obtain ⟨q, hq⟩ := hA p (by omega) p2
                exfalso
                rcases Nat.lt_trichotomy q i with a | a | a
                · exact p6 q hq.1 a (hq.2.2.1.trans p4)
                · subst a
                  have := hq.2.2.2.1.1
                  rw [show (rd_T45 l0 ((q : Nat) : Int)).f1 = true from hb] at this
                  cases this
                · exact hq.2.2.2.2 i p1 a p4.symm
            rw [if_pos ⟨hop, hbg⟩]
            exact ⟨_, rfl⟩
          | false =>
            rw [if_neg (by simp)]
            obtain ⟨p, p1, p2⟩ := hB i (by omega) hb
            rcases (hI.here p p2.1 p1).2 with ⟨q, q1, q2, _⟩ | ⟨q1, q2, _⟩
            · have := q2.one p2
              omega
            · rw [p2.2.2.1, q1]
              dsimp only
              rw [q2]
              have hE := p2.2.2.2.1
              have hop : (mo l0 i).f2 = (mo l0 p).f2 := opEq_eq hE.2.1
              have hen : endsB (mo l0 i).f2 (mo l0 i).f3 = true := by
                rw [hop, ends_eq _ _ (b2 p (by have := p2.1; omega) p1).1.1 (hs.2 i (by omega)).1 (hs.2 i (by omega)).2]
                exact hE.2.2
              rw [if_pos ⟨by rw [hop]; exact ⟨rfl, rfl, rfl⟩, hen⟩]
              exact ⟨_, rfl⟩
      obtain ⟨t, ht⟩ := hrat l0.length (Nat.le_refl _)
      have hI := ri_at hs l0.length t (Nat.le_refl _) ht
      refine ⟨t.calls, readB_yes ht ⟨fun c => ?_, by rw [hI.len]; omega⟩⟩
      cases hk : t.opn c with
      | none => rfl
      | some k =>
        obtain ⟨p, p1, p2, p3, p4, p5, p6⟩ := hI.opn _ k hk
        obtain ⟨q, hq⟩ := hA p (by omega) p2
        exact absurd (hq.2.2.1.trans p4) (p6 q hq.1 hq.2.1)
    · cases h2
theorem read_eq {l0 : List S45} (hs : ShortH l0) : readB l0 = refB l0 := by
  cases h : refB l0 with
  | none =>
    cases g : readB l0 with
    | none => rfl
    | some cs => rw [read_ref hs g] at h; cases h
  | some cs =>
    obtain ⟨cs', h'⟩ := ref_read hs h
    rw [h', ← read_ref hs h', h]
/-- what the calls of a history are -/
structure CsOk (cs : List S70) : Prop where
  rise : ∀ i j, i < j → j < cs.length → (rd_T70 cs (i : Nat)).f0 < (rd_T70 cs (j : Nat)).f0
  span : ∀ i, i < cs.length → (rd_T70 cs (i : Nat)).f0 < (rd_T70 cs (i : Nat)).f1
  op : ∀ i, i < cs.length → opB (rd_T70 cs (i : Nat)).f2 = true
  reply : ∀ i, i < cs.length → replyB (rd_T70 cs (i : Nat)).f2 (rd_T70 cs (i : Nat)).f3 = true
  few : cs.length ≤ 64
  keys : ∀ i, i < cs.length → (rd_T70 cs (i : Nat)).f3.f2.length ≤ 2147483647
theorem begs_split {l0 : List S45} : ∀ (i k : Nat), k < begCount l0 i → ∃ p, p < i ∧ (mo l0 p).f1 = true ∧ begCount l0 p = k := by
  intro i
  induction i with
  | zero => intro k h; exact absurd h (Nat.not_lt_zero _)
  | succ i ih =>
    intro k h
    cases hb : (mo l0 i).f1 with
    | false =>
      rw [beg_same hb] at h
      obtain ⟨p, a, b⟩ := ih k h
      exact ⟨p, by omega, b⟩
    | true =>
      rw [beg_succ hb] at h
      rcases Nat.lt_or_ge k (begCount l0 i) with a | a
      · obtain ⟨p, a, b⟩ := ih k a
        exact ⟨p, by omega, b⟩
      · exact ⟨i, by omega, hb, by omega⟩
theorem read_csok {l0 : List S45} (hs : ShortH l0) {cs : List S70} (h : readB l0 = some cs) : CsOk cs := by
  unfold readB at h
  obtain ⟨s, h1, h2⟩ := Option.bind_eq_some_iff.1 h
  split at h2
  · rename_i hh
    obtain rfl := Option.some.inj h2
    have hI := ri_at hs l0.length s (Nat.le_refl _) h1
    have hk : ∀ k, k < s.calls.length → ∃ p q, begCount l0 p = k ∧ p < l0.length ∧ (mo l0 p).f1 = true ∧ Endq l0 p q ∧ opB (mo l0 p).f2 = true ∧ rd_T70 s.calls (k : Nat) = ⟨(p : Nat), (q : Nat), (mo l0 p).f2, (mo l0 q).f3⟩ := fun k hk => by
      obtain ⟨p, p1, p2, p3⟩ := begs_split l0.length k (by rw [← hI.len]; exact hk)
      subst p3
      obtain ⟨a, b⟩ := hI.here p p1 p2
      rcases b with ⟨q, _, q2, q3⟩ | ⟨q1, _⟩
      · exact ⟨p, q, rfl, p1, p2, q2, a.1, q3⟩
      · rw [hh.1] at q1; cases q1
    refine ⟨fun i j hij hj => ?_, fun i hi => ?_, fun i hi => ?_, fun i hi => ?_, hh.2, fun i hi => ?_⟩
    · obtain ⟨p, q, a1, _, _, _, _, a⟩ := hk i (by omega)
      obtain ⟨p', q', b1, _, _, _, _, b⟩ := hk j hj
      rw [a, b]
      show ((p : Nat) : Int) < ((p' : Nat) : Int)
      rcases Nat.lt_or_ge p p' with c | c
      · omega
      · have := beg_mono l0 c
        omega
    · obtain ⟨p, q, _, _, _, hq, _, a⟩ := hk i hi
      rw [a]
      have := hq.1
      show ((p : Nat) : Int) < ((q : Nat) : Int)
      omega
    · obtain ⟨p, q, _, _, _, _, ho, a⟩ := hk i hi
      rw [a]
      exact ho
    · obtain ⟨p, q, _, _, _, hq, ho, a⟩ := hk i hi
      rw [a]
      exact hq.2.2.2.1.2.2
    · obtain ⟨p, q, _, _, _, hq, ho, a⟩ := hk i hi
      rw [a]
      exact (hs.2 q hq.2.1).1
  · cases h2
/-- the call makes this key's value -/
def pubOk (c : S70) (x : Int) : Prop := c.f2.f0 = 1 ∧ c.f3.f0 = true ∧ c.f2.f1 = x
theorem str_nil {s : ByteArray} (h : s.toList = ([] : List UInt8)) : s = ⟨#[]⟩ := str_eq.1 (by rw [h]; kernel_rfl)
/-! ### rising lists -/
theorem rising_inj {K : List Int} (hr : Rising K) {i j : Nat} (h : K.getD i 0 = K.getD j 0) (hi : i < K.length) (hj : j < K.length) : i = j := by
  rcases Nat.lt_trichotomy i j with a | a | a
  · have := hr i j a hj; omega
  · exact a
  · have := hr j i a hi; omega
theorem getD_mem0 {K : List Int} {i : Nat} (h : i < K.length) : K.getD i 0 ∈ K := by
  rw [List.getD_eq_getElem?_getD, List.getElem?_eq_getElem h]
  exact List.getElem_mem h
theorem mem_at0 {K : List Int} {x : Int} (h : x ∈ K) : ∃ i, i < K.length ∧ K.getD i 0 = x := by
  obtain ⟨i, hi, rfl⟩ := List.getElem_of_mem h
  exact ⟨i, hi, by rw [List.getD_eq_getElem?_getD, List.getElem?_eq_getElem hi]; rfl⟩
theorem found_iff {K : List Int} (hr : Rising K) {x : Int} {lo : Nat} (h : AtPlace K x lo) : foundB K x lo = true ↔ x ∈ K := by
  unfold foundB
  rw [Bool.and_eq_true, decide_eq_true_eq, decide_eq_true_eq]
  constructor
  · rintro ⟨a, b⟩
    rw [← b]
    exact getD_mem0 a
  · intro hx
    obtain ⟨i, hi, rfl⟩ := mem_at0 hx
    rcases Nat.lt_trichotomy i lo with a | a | a
    · have := h.low i a; omega
    · subst a; exact ⟨hi, rfl⟩
    · have h1 := h.high lo (Nat.le_refl _) (by omega)
      have h2 := hr lo i a hi
      omega
/-- the values of keys -/
def Has (K : List Int) (V : List ByteArray) (x : Int) (v : ByteArray) : Prop := ∃ j, j < K.length ∧ K.getD j 0 = x ∧ V.getD j ⟨#[]⟩ = v
theorem Has.mem {K : List Int} {V : List ByteArray} {x : Int} {v : ByteArray} (h : Has K V x v) : x ∈ K := by
  obtain ⟨j, hj, rfl, _⟩ := h
  exact getD_mem0 hj
theorem has_mem {K : List Int} {x : Int} (V : List ByteArray) (h : x ∈ K) : ∃ v, Has K V x v := by
  obtain ⟨i, hi, rfl⟩ := mem_at0 h
  exact ⟨_, i, hi, rfl, rfl⟩
theorem holed_getD {α : Type} {l : List α} {k : Nat} (h : k ≤ l.length) (y d : α) (j : Nat) : (holed l k y).getD j d = if j < k then l.getD j d else if j = k then y else l.getD (j - 1) d := by
  unfold holed
  rw [List.getD_eq_getElem?_getD]
  split
  · rename_i a
    rw [List.getElem?_append_left (by rw [List.length_take]; omega), List.getElem?_take, if_pos a, List.getD_eq_getElem?_getD]
  · rename_i a
    rw [List.getElem?_append_right (by rw [List.length_take]; omega), List.length_take, Nat.min_eq_left h]
    split
    · rename_i b
      subst b
      rw [Nat.sub_self]
      rfl
    · obtain ⟨m, rfl⟩ : ∃ m, j = k + (m + 1) := ⟨j - k - 1, by omega⟩
      rw [show k + (m + 1) - k = m + 1 by omega, List.getElem?_cons_succ, List.getElem?_drop, List.getD_eq_getElem?_getD, show k + (m + 1) - 1 = k + m by omega]
theorem has_holed {K : List Int} {V : List ByteArray} (hl : K.length = V.length) {lo : Nat} (h : lo ≤ K.length) (y : Int) (u : ByteArray) (x : Int) (v : ByteArray) :
    Has (holed K lo y) (holed V lo u) x v ↔ (x = y ∧ v = u) ∨ Has K V x v := by
  constructor
  · rintro ⟨j, hj, h1, h2⟩
    rw [holed_len h] at hj
    rw [holed_getD h] at h1
    rw [holed_getD (by omega)] at h2
    split at h1
    · rename_i a
      rw [if_pos a] at h2
      exact .inr ⟨j, by omega, h1, h2⟩
    · rename_i a
      rw [if_neg a] at h2
      split at h1
      · rename_i b
        rw [if_pos b] at h2
        exact .inl ⟨h1.symm, h2.symm⟩
      · rename_i b
        rw [if_neg b] at h2
        exact .inr ⟨j - 1, by omega, h1, h2⟩
  · rintro (⟨rfl, rfl⟩ | ⟨j, hj, h1, h2⟩)
    · refine ⟨lo, by rw [holed_len h]; omega, ?_, ?_⟩
      · rw [holed_getD h, if_neg (by omega), if_pos rfl]
      · rw [holed_getD (by omega), if_neg (by omega), if_pos rfl]
    · rcases Nat.lt_or_ge j lo with a | a
      · refine ⟨j, by rw [holed_len h]; omega, ?_, ?_⟩
        · rw [holed_getD h, if_pos a]; exact h1
        · rw [holed_getD (by omega), if_pos a]; exact h2
      · refine ⟨j + 1, by rw [holed_len h]; omega, ?_, ?_⟩
        · rw [holed_getD h, if_neg (by omega), if_neg (by omega)]; exact h1
        · rw [holed_getD (by omega), if_neg (by omega), if_neg (by omega)]; exact h2
theorem rising_ext {A B : List Int} (ha : Rising A) (hb : Rising B) (h : ∀ x, x ∈ A ↔ x ∈ B) : A = B := by
  have sorted : ∀ {L : List Int}, Rising L → L.Pairwise (· < ·) := fun {L} hl => by
    rw [List.pairwise_iff_getElem]
    intro i j hi hj hij
    have := hl i j hij hj
    rw [List.getD_eq_getElem?_getD, List.getD_eq_getElem?_getD, List.getElem?_eq_getElem hi, List.getElem?_eq_getElem hj] at this
    exact this
  have key : ∀ (A B : List Int), A.Pairwise (· < ·) → B.Pairwise (· < ·) → (∀ x, x ∈ A ↔ x ∈ B) → A = B := by
    intro A
    induction A with
    | nil =>
      intro B _ _ h
      cases B with
      | nil => rfl
      | cons b B => have := (h b).2 (by simp); cases this
    | cons a A ih =>
      intro B hA hB h
      cases B with
      | nil => have := (h a).1 (by simp); cases this
      | cons b B =>
        obtain ⟨a1, a2⟩ := List.pairwise_cons.1 hA
        obtain ⟨b1, b2⟩ := List.pairwise_cons.1 hB
        have hab : a = b := by
          rcases List.mem_cons.1 ((h a).1 (by simp)) with q | q
          · exact q
          · rcases List.mem_cons.1 ((h b).2 (by simp)) with r | r
            · exact r.symm
            · have := b1 a q
              have := a1 b r
              omega
        subst hab
        rw [ih B a2 b2 fun x => ⟨fun hx => ?_, fun hx => ?_⟩]
        · rcases List.mem_cons.1 ((h x).1 (by simp [hx])) with q | q
          · have := a1 x hx; omega
          · exact q
        · rcases List.mem_cons.1 ((h x).2 (by simp [hx])) with q | q
          · have := b1 x hx; omega
          · exact q
  exact key A B (sorted ha) (sorted hb) h
theorem asc_rising {l : List Int} (h : ascFrom l 1 = true) : Rising l := by
  have h1 : ∀ j, j + 1 < l.length → l.getD j 0 < l.getD (j + 1) 0 := fun j hj => (of_decide_eq_true h) (j + 1) hj (by omega) (by omega)
  intro i j hij hj
  induction hij with
  | refl => exact h1 i hj
  | @step m hm ih => have := ih (by omega); have := h1 m hj; exact Int.lt_trans ‹_› ‹_›
/-! ### an order that goes on as the plain map answers -/
inductive Run (cs : List S70) : List Nat → List Int → List ByteArray → Prop
  | nil : Run cs [] [] []
  | snoc {is : List Nat} {K : List Int} {V : List ByteArray} {k : Nat} {K' : List Int} {V' : List ByteArray} : Run cs is K V → k < cs.length → k ∉ is → (∀ j ∈ is, ¬ (rd_T70 cs (k : Nat)).f1 < (rd_T70 cs (j : Nat)).f0) →
      DoIs K V (rd_T70 cs (k : Nat)).f2 K' V' (rd_T70 cs (k : Nat)).f3 → Run cs (is ++ [k]) K' V'
structure StR (cs : List S70) (is : List Nat) (K : List Int) (V : List ByteArray) : Prop where
  rise : Rising K
  len : K.length = V.length
  has : ∀ x v, Has K V x v ↔ ∃ k ∈ is, pubOk (rd_T70 cs (k : Nat)) x ∧ (rd_T70 cs (k : Nat)).f2.f2 = v
theorem StR.mem {cs : List S70} {is : List Nat} {K : List Int} {V : List ByteArray} (h : StR cs is K V) (x : Int) : x ∈ K ↔ ∃ k ∈ is, pubOk (rd_T70 cs (k : Nat)) x := by
  constructor
  · intro hx
    obtain ⟨v, hv⟩ := has_mem V hx
    obtain ⟨k, k1, k2, _⟩ := (h.has x v).1 hv
    exact ⟨k, k1, k2⟩
  · rintro ⟨k, k1, k2⟩
    exact ((h.has x _).2 ⟨k, k1, k2, rfl⟩).mem
theorem StR.same {cs : List S70} {is : List Nat} {K : List Int} {V : List ByteArray} (h : StR cs is K V) {k : Nat} (hk : ∀ x, ¬ pubOk (rd_T70 cs (k : Nat)) x) : StR cs (is ++ [k]) K V :=
  ⟨h.rise, h.len, fun x v => (h.has x v).trans ⟨fun ⟨j, a, b⟩ => ⟨j, List.mem_append_left _ a, b⟩, fun ⟨j, a, b⟩ => by
    rcases List.mem_append.1 a with q | q
    · exact ⟨j, q, b⟩
    · obtain rfl := List.mem_singleton.1 q
      exact absurd b.1 (hk x)⟩⟩
theorem StR.put {cs : List S70} {is : List Nat} {K : List Int} {V : List ByteArray} (h : StR cs is K V) {k lo : Nat} (hk : pubOk (rd_T70 cs (k : Nat)) (rd_T70 cs (k : Nat)).f2.f1) (hp : AtPlace K (rd_T70 cs (k : Nat)).f2.f1 lo) (hf : foundB K (rd_T70 cs (k : Nat)).f2.f1 lo = false) :
    StR cs (is ++ [k]) (holed K lo (rd_T70 cs (k : Nat)).f2.f1) (holed V lo (rd_T70 cs (k : Nat)).f2.f2) := by
  have hlo := hp.le
  refine ⟨rising_holed h.rise hp hf, by rw [holed_len hp.le, holed_len (by have := h.len; omega), h.len], fun x v => (has_holed h.len hp.le _ _ x v).trans ⟨?_, ?_⟩⟩
  · rintro (⟨rfl, rfl⟩ | q)
    · exact ⟨k, by simp, hk, rfl⟩
    · obtain ⟨j, a, b⟩ := (h.has x v).1 q
      exact ⟨j, List.mem_append_left _ a, b⟩
  · rintro ⟨j, a, b, c⟩
    rcases List.mem_append.1 a with q | q
    · exact .inr ((h.has x v).2 ⟨j, q, b, c⟩)
    · obtain rfl := List.mem_singleton.1 q
      exact .inl ⟨b.2.2.symm, c.symm⟩
theorem run_st {cs : List S70} {is : List Nat} {K : List Int} {V : List ByteArray} (h : Run cs is K V) : StR cs is K V := by
  induction h with
  | nil => exact ⟨fun i j _ h => absurd h (Nat.not_lt_zero _), rfl, fun x v => ⟨(fun ⟨j, h, _⟩ => absurd h (Nat.not_lt_zero _)), fun ⟨k, h, _⟩ => by cases h⟩⟩
  | snoc _ _ _ _ hd ih =>
    unfold DoIs at hd
    split at hd
    · rename_i h1
      obtain ⟨lo, hp, hd⟩ := hd
      split at hd
      · obtain ⟨rfl, rfl, hr⟩ := hd
        exact ih.same fun x q => by have q2 := q.2.1; rw [hr] at q2; cases q2
      · rename_i hf
        obtain ⟨rfl, rfl, hr⟩ := hd
        exact ih.put ⟨h1, by rw [hr], rfl⟩ hp (by simpa using hf)
    · rename_i h1
      split at hd
      · obtain ⟨lo, _, rfl, rfl, _⟩ := hd
        exact ih.same fun x q => h1 q.1
      · obtain ⟨rfl, rfl, _⟩ := hd
        exact ih.same fun x q => h1 q.1
/-! ### who made what -/
theorem mk_iff {cs : List S70} : ∀ (i : Nat) (mk : Mk), mkAt cs i = some mk → ∀ x k, mk x = some k ↔ k < i ∧ pubOk (rd_T70 cs (k : Nat)) x := by
  intro i
  induction i with
  | zero =>
    intro mk h x k
    cases h
    exact ⟨(fun q => by cases q), fun q => absurd q.1 (Nat.not_lt_zero _)⟩
  | succ i ih =>
    intro mk h x k
    rw [mkAt_succ] at h
    obtain ⟨m1, h1, h2⟩ := Option.bind_eq_some_iff.1 h
    have I := ih m1 h1
    unfold mstep at h2
    split at h2
    · rename_i hp
      split at h2
      · rename_i hn
        obtain rfl := Option.some.inj h2
        simp only [upd1]
        split
        · rename_i hx
          subst hx
          constructor
          · intro q
            obtain rfl := Option.some.inj q
            exact ⟨by omega, hp.1, hp.2, rfl⟩
          · rintro ⟨a, b⟩
            rcases Nat.lt_or_ge k i with c | c
            · have := (I _ k).2 ⟨c, b⟩
              rw [hn] at this
              cases this
            · rw [show i = k by omega]
        · rename_i hx
          rw [I x k]
          constructor
          · rintro ⟨a, b⟩; exact ⟨by omega, b⟩
          · rintro ⟨a, b⟩
            rcases Nat.lt_or_ge k i with c | c
            · exact ⟨c, b⟩
            · obtain rfl : k = i := by omega
              exact absurd b.2.2.symm hx
      · cases h2
    · rename_i hp
      obtain rfl := Option.some.inj h2
      rw [I x k]
      constructor
      · rintro ⟨a, b⟩; exact ⟨by omega, b⟩
      · rintro ⟨a, b⟩
        rcases Nat.lt_or_ge k i with c | c
        · exact ⟨c, b⟩
        · obtain rfl : k = i := by omega
          exact absurd ⟨b.1, b.2.1⟩ hp
structure Made (cs : List S70) (mk : Mk) : Prop where
  who : ∀ x k, mk x = some k ↔ k < cs.length ∧ pubOk (rd_T70 cs (k : Nat)) x
  fits : ∀ k, k < cs.length → fitsB cs mk (rd_T70 cs (k : Nat)) = true
theorem made_of {cs : List S70} {mk : Mk} (h : madeB cs = some mk) : Made cs mk := by
  unfold madeB at h
  obtain ⟨m1, h1, h2⟩ := Option.bind_eq_some_iff.1 h
  split at h2
  · rename_i hh
    obtain rfl := Option.some.inj h2
    exact ⟨mk_iff _ _ h1, hh⟩
  · cases h2
theorem held_iff {cs : List S70} {mk : Mk} (h : Made cs mk) {k : Nat} (hk : k < cs.length) : heldB cs mk k = true ↔ pubOk (rd_T70 cs (k : Nat)) (rd_T70 cs (k : Nat)).f2.f1 := by
  unfold heldB
  rw [Bool.and_eq_true, decide_eq_true_eq, decide_eq_true_eq]
  constructor
  · rintro ⟨a, _⟩; exact ((h.who _ _).1 a).2
  · intro a; exact ⟨(h.who _ _).2 ⟨hk, a⟩, a.1⟩
theorem Made.one {cs : List S70} {mk : Mk} (h : Made cs mk) {x : Int} {j k : Nat} (hj : j < cs.length) (hk : k < cs.length) (pj : pubOk (rd_T70 cs (j : Nat)) x) (pk : pubOk (rd_T70 cs (k : Nat)) x) : j = k := by
  have a := (h.who x j).2 ⟨hj, pj⟩
  have b := (h.who x k).2 ⟨hk, pk⟩
  rw [a] at b
  exact Option.some.inj b
/-! ### a right reply, by kinds -/
theorem op_kind {o : S40} (h : opB o = true) : o.f0 = 1 ∨ o.f0 = 2 ∨ o.f0 = 3 := by
  unfold opB at h
  by_cases c1 : o.f0 = 1
  · exact .inl c1
  · by_cases c2 : o.f0 = 2
    · exact .inr (.inl c2)
    · by_cases c3 : o.f0 = 3
      · exact .inr (.inr c3)
      · rw [if_neg c1, if_neg c2, if_neg c3] at h; cases h
theorem reply_pub {o : S40} {r : S43} (h : replyB o r = true) (ho : o.f0 = 1) : r = ⟨r.f0, ⟨#[]⟩, [], []⟩ := by
  unfold replyB at h
  rw [if_neg (by omega)] at h
  simp only [Bool.and_eq_true, Bool.or_eq_true, decide_eq_true_eq, beq_iff_eq] at h
  obtain ⟨h1, h2, h3⟩ := h
  have e1 := List.eq_nil_of_length_eq_zero h1
  have e2 := List.eq_nil_of_length_eq_zero h2
  have e3 : r.f1 = ⟨#[]⟩ := by
    rcases h3 with q | q
    · exact str_nil q
    · omega
  cases r
  simp_all
theorem reply_look {o : S40} {r : S43} (h : replyB o r = true) (ho : o.f0 = 2) : r = ⟨r.f0, r.f1, [], []⟩ ∧ (r.f0 = false → r = z43) := by
  unfold replyB at h
  rw [if_neg (by omega)] at h
  simp only [Bool.and_eq_true, Bool.or_eq_true, decide_eq_true_eq, beq_iff_eq] at h
  obtain ⟨h1, h2, h3⟩ := h
  have e1 := List.eq_nil_of_length_eq_zero h1
  have e2 := List.eq_nil_of_length_eq_zero h2
  refine ⟨by cases r; simp_all, fun h0 => ?_⟩
  have e3 : r.f1 = ⟨#[]⟩ := by
    rcases h3 with q | q
    · exact str_nil q
    · rw [h0] at q; cases q.2
  unfold z43
  cases r
  simp_all
theorem reply_snap {o : S40} {r : S43} (h : replyB o r = true) (ho : o.f0 = 3) : r = ⟨true, ⟨#[]⟩, r.f2, r.f3⟩ ∧ r.f2.length = r.f3.length ∧ Rising r.f2 := by
  unfold replyB at h
  rw [if_pos ho] at h
  simp only [Bool.and_eq_true, decide_eq_true_eq, beq_iff_eq] at h
  obtain ⟨h1, h2, h3, h4⟩ := h
  have e2 := str_nil h2
  exact ⟨by cases r; simp_all, h3, asc_rising h4⟩
/-! ### who must stand ahead -/
theorem edge_iff {cs : List S70} {mk : Mk} {k i : Nat} : edgeB cs mk k i = true ↔ k ≠ i ∧ ((rd_T70 cs (k : Nat)).f1 < (rd_T70 cs (i : Nat)).f0 ∨ sawB cs mk (rd_T70 cs (i : Nat)) k = true ∨ missedB cs mk (rd_T70 cs (k : Nat)) i = true) := by
  unfold edgeB
  simp only [Bool.and_eq_true, Bool.or_eq_true, decide_eq_true_eq]
theorem saw_iff {cs : List S70} {mk : Mk} (h : Made cs mk) {c : S70} {k : Nat} (hk : k < cs.length) : sawB cs mk c k = true ↔ pubOk (rd_T70 cs (k : Nat)) (rd_T70 cs (k : Nat)).f2.f1 ∧ sawTail c (rd_T70 cs (k : Nat)).f2.f1 = true := by
  unfold sawB
  rw [Bool.and_eq_true, held_iff h hk]
theorem missed_iff {cs : List S70} {mk : Mk} (h : Made cs mk) {c : S70} {k : Nat} (hk : k < cs.length) : missedB cs mk c k = true ↔ pubOk (rd_T70 cs (k : Nat)) (rd_T70 cs (k : Nat)).f2.f1 ∧ missedTail c (rd_T70 cs (k : Nat)).f2.f1 = true := by
  unfold missedB
  rw [Bool.and_eq_true, held_iff h hk]
theorem edge_saw {cs : List S70} {mk : Mk} (h : Made cs mk) {j k : Nat} {x : Int} (hj : j < cs.length) (hne : j ≠ k) (hp : pubOk (rd_T70 cs (j : Nat)) x) (hs : sawTail (rd_T70 cs (k : Nat)) x = true) : edgeB cs mk j k = true := by
  have e : (rd_T70 cs (j : Nat)).f2.f1 = x := hp.2.2
  exact edge_iff.2 ⟨hne, .inr (.inl ((saw_iff h hj).2 ⟨by rw [e]; exact hp, by rw [e]; exact hs⟩))⟩
theorem edge_missed {cs : List S70} {mk : Mk} (h : Made cs mk) {j k : Nat} {x : Int} (hk : k < cs.length) (hne : j ≠ k) (hp : pubOk (rd_T70 cs (k : Nat)) x) (hs : missedTail (rd_T70 cs (j : Nat)) x = true) : edgeB cs mk j k = true := by
  have e : (rd_T70 cs (k : Nat)).f2.f1 = x := hp.2.2
  exact edge_iff.2 ⟨hne, .inr (.inr ((missed_iff h hk).2 ⟨by rw [e]; exact hp, by rw [e]; exact hs⟩))⟩
/-- all that must stand ahead of a call is there -/
def Down (cs : List S70) (mk : Mk) (D : List Nat) (k : Nat) : Prop := ∀ j, j < cs.length → edgeB cs mk j k = true → j ∈ D
theorem given_some {cs : List S70} {mk : Mk} {x : Int} {v : ByteArray} : givenV cs mk x = some v ↔ ∃ k, mk x = some k ∧ (rd_T70 cs (k : Nat)).f2.f2 = v := by
  unfold givenV
  cases mk x <;> simp
theorem doPubOld {K : List Int} {V : List ByteArray} {o : S40} {r : S43} {lo : Nat} (ho : o.f0 = 1) (hp : AtPlace K o.f1 lo) (hf : foundB K o.f1 lo = true) (hr : r = z43) : DoIs K V o K V r := by
  unfold DoIs
  rw [if_pos ho]
  exact ⟨lo, hp, by rw [if_pos hf]; exact ⟨rfl, rfl, hr⟩⟩
theorem doPubNew {K : List Int} {V : List ByteArray} {o : S40} {r : S43} {lo : Nat} (ho : o.f0 = 1) (hp : AtPlace K o.f1 lo) (hf : ¬ foundB K o.f1 lo = true) (hr : r = ⟨true, ⟨#[]⟩, [], []⟩) : DoIs K V o (holed K lo o.f1) (holed V lo o.f2) r := by
  unfold DoIs
  rw [if_pos ho]
  exact ⟨lo, hp, by rw [if_neg hf]; exact ⟨rfl, rfl, hr⟩⟩
theorem doLook {K : List Int} {V : List ByteArray} {o : S40} {r : S43} {lo : Nat} (ho : o.f0 = 2) (hp : AtPlace K o.f1 lo) (hr : r = if foundB K o.f1 lo = true then ⟨true, V.getD lo ⟨#[]⟩, [], []⟩ else z43) : DoIs K V o K V r := by
  unfold DoIs
  rw [if_neg (by omega), if_pos ho]
  exact ⟨lo, hp, rfl, rfl, hr⟩
theorem doSnap {K : List Int} {V : List ByteArray} {o : S40} {r : S43} (ho : o.f0 = 3) (hr : r = ⟨true, ⟨#[]⟩, K, V⟩) : DoIs K V o K V r := by
  unfold DoIs
  rw [if_neg (by omega), if_neg (by omega)]
  exact ⟨rfl, rfl, hr⟩
theorem run_step {cs : List S70} (hc : CsOk cs) {mk : Mk} (hm : Made cs mk) {is : List Nat} {K : List Int} {V : List ByteArray} (hr : Run cs is K V) (hin : ∀ j ∈ is, j < cs.length) (hdn : ∀ j ∈ is, Down cs mk is j) {k : Nat} (hk : k < cs.length) (hnk : k ∉ is) (hd : Down cs mk is k) :
    ∃ K' V', Run cs (is ++ [k]) K' V' := by
  have hst := run_st hr
  have hne : ∀ j ∈ is, j ≠ k := fun j hj e => hnk (by rw [← e]; exact hj)
  have hclock : ∀ j ∈ is, ¬ (rd_T70 cs (k : Nat)).f1 < (rd_T70 cs (j : Nat)).f0 := fun j hj q => hnk (hdn j hj k hk (edge_iff.2 ⟨fun e => hne j hj e.symm, .inl q⟩))
  suffices hdo : ∃ K' V', DoIs K V (rd_T70 cs (k : Nat)).f2 K' V' (rd_T70 cs (k : Nat)).f3 by
    obtain ⟨K', V', hdo⟩ := hdo
    exact ⟨K', V', .snoc hr hk hnk hclock hdo⟩
  have hrep := hc.reply k hk
  have hfit := hm.fits k hk
  have hmiss : ∀ x, missedTail (rd_T70 cs (k : Nat)) x = true → x ∉ K := fun x hx q => by
    obtain ⟨j, j1, j2⟩ := (hst.mem x).1 q
    exact hnk (hdn j j1 k hk (edge_missed hm (hin j j1) (fun e => hne j j1 e.symm) j2 hx))
  have hsaw : ∀ x j, j < cs.length → j ≠ k → pubOk (rd_T70 cs (j : Nat)) x → sawTail (rd_T70 cs (k : Nat)) x = true → j ∈ is := fun x j hj hn hp hs => hd j hj (edge_saw hm hj hn hp hs)
  rcases op_kind (hc.op k hk) with ho | ho | ho
  · obtain ⟨lo, hp⟩ := place_ex hst.rise (rd_T70 cs (k : Nat)).f2.f1
    have hform := reply_pub hrep ho
    cases hok : (rd_T70 cs (k : Nat)).f3.f0 with
    | true =>
      rw [hok] at hform
      have hpk : pubOk (rd_T70 cs (k : Nat)) (rd_T70 cs (k : Nat)).f2.f1 := ⟨ho, hok, rfl⟩
      have hnf : ¬ foundB K (rd_T70 cs (k : Nat)).f2.f1 lo = true := fun q => by
        obtain ⟨j, j1, j2⟩ := (hst.mem _).1 ((found_iff hst.rise hp).1 q)
        exact hne j j1 (hm.one (hin j j1) hk j2 hpk)
      exact ⟨_, _, doPubNew ho hp hnf hform⟩
    | false =>
      rw [hok] at hform
      have hfs : (mk (rd_T70 cs (k : Nat)).f2.f1).isSome = true := by unfold fitsB at hfit; rwa [if_pos ho] at hfit
      obtain ⟨j, hj⟩ := Option.isSome_iff_exists.1 hfs
      obtain ⟨j1, j2⟩ := (hm.who _ _).1 hj
      have hjk : j ≠ k := fun e => by subst e; rw [j2.2.1] at hok; cases hok
      have hmem := hsaw _ j j1 hjk j2 (by
        unfold sawTail
        rw [if_neg (by omega), if_pos ho, hok]
        simp)
      have hf := (found_iff hst.rise hp).2 ((hst.mem _).2 ⟨j, hmem, j2⟩)
      exact ⟨_, _, doPubOld ho hp hf hform⟩
  · obtain ⟨lo, hp⟩ := place_ex hst.rise (rd_T70 cs (k : Nat)).f2.f1
    obtain ⟨hform, hzero⟩ := reply_look hrep ho
    cases hok : (rd_T70 cs (k : Nat)).f3.f0 with
    | true =>
      rw [hok] at hform
      have hfs : givenV cs mk (rd_T70 cs (k : Nat)).f2.f1 = some (rd_T70 cs (k : Nat)).f3.f1 := by
        unfold fitsB at hfit
        rw [if_neg (by omega), if_pos ho, hok] at hfit
        simpa using hfit
      obtain ⟨j, hj, hv⟩ := given_some.1 hfs
      obtain ⟨j1, j2⟩ := (hm.who _ _).1 hj
      have hjk : j ≠ k := fun e => by subst e; have := j2.1; omega
      have hmem := hsaw _ j j1 hjk j2 (by
        unfold sawTail
        rw [if_neg (by omega), if_neg (by omega), hok]
        simp)
      have hhas := (hst.has _ _).2 ⟨j, hmem, j2, hv⟩
      have hf := (found_iff hst.rise hp).2 hhas.mem
      have hval : V.getD lo ⟨#[]⟩ = (rd_T70 cs (k : Nat)).f3.f1 := by
        obtain ⟨i, i1, i2, i3⟩ := hhas
        have hf2 := hf
        unfold foundB at hf2
        rw [Bool.and_eq_true, decide_eq_true_eq, decide_eq_true_eq] at hf2
        have := rising_inj hst.rise (i2.trans hf2.2.symm) i1 hf2.1
        rw [← this]
        exact i3
      exact ⟨_, _, doLook ho hp (by rw [if_pos hf, hval]; exact hform)⟩
    | false =>
      have hnf : ¬ foundB K (rd_T70 cs (k : Nat)).f2.f1 lo = true := fun q => hmiss _ (by
        unfold missedTail
        rw [if_neg (by omega), if_pos ho, hok]
        simp) ((found_iff hst.rise hp).1 q)
      exact ⟨_, _, doLook ho hp (by rw [if_neg hnf]; exact hzero hok)⟩
  · obtain ⟨hform, hlen, hris⟩ := reply_snap hrep ho
    have hsn : snapB cs mk (rd_T70 cs (k : Nat)).f3.f2 (rd_T70 cs (k : Nat)).f3.f3 (rd_T70 cs (k : Nat)).f3.f2.length := by
      unfold fitsB at hfit
      rw [if_neg (by omega), if_neg (by omega)] at hfit
      exact of_decide_eq_true hfit
    have hhas : ∀ j, j < (rd_T70 cs (k : Nat)).f3.f2.length → Has K V ((rd_T70 cs (k : Nat)).f3.f2.getD j 0) ((rd_T70 cs (k : Nat)).f3.f3.getD j ⟨#[]⟩) := fun j hj => by
      obtain ⟨i, hi, hv⟩ := given_some.1 (hsn j hj)
      obtain ⟨i1, i2⟩ := (hm.who _ _).1 hi
      have hik : i ≠ k := fun e => by subst e; have := i2.1; omega
      have hmem := hsaw _ i i1 hik i2 (by
        unfold sawTail
        rw [if_pos ho]
        exact idx_isSome.2 (getD_mem0 hj))
      exact (hst.has _ _).2 ⟨i, hmem, i2, hv⟩
    have hK : (rd_T70 cs (k : Nat)).f3.f2 = K := rising_ext hris hst.rise fun x => ⟨fun hx => by
      obtain ⟨j, hj, rfl⟩ := mem_at0 hx
      exact (hhas j hj).mem, fun hx => by
      refine Classical.byContradiction fun hn => hmiss x ?_ hx
      unfold missedTail
      rw [if_pos ho]
      cases q : (idx (rd_T70 cs (k : Nat)).f3.f2 x).isSome with
      | false => rfl
      | true => exact absurd (idx_isSome.1 q) hn⟩
    have hV : (rd_T70 cs (k : Nat)).f3.f3 = V := by
      refine list_ext_getD ⟨#[]⟩ (by rw [← hlen, hK, hst.len]) fun j _ hj => ?_
      obtain ⟨i, i1, i2, i3⟩ := hhas j (by omega)
      rw [hK] at i2
      have := rising_inj hst.rise i2 i1 (by rw [← hK]; omega)
      subst this
      exact i3.symm
    exact ⟨_, _, doSnap ho (by rw [← hK, ← hV]; exact hform)⟩
/-! ### an order of all calls that goes on so -/
theorem run_take {cs : List S70} {is : List Nat} {K : List Int} {V : List ByteArray} (h : Run cs is K V) : (∀ j ∈ is, j < cs.length) ∧ is.Nodup ∧ ∀ t k, is[t]? = some k → ∃ K V K' V', Run cs (is.take t) K V ∧ k ∉ is.take t ∧ (∀ j ∈ is.take t, ¬ (rd_T70 cs (k : Nat)).f1 < (rd_T70 cs (j : Nat)).f0) ∧ DoIs K V (rd_T70 cs (k : Nat)).f2 K' V' (rd_T70 cs (k : Nat)).f3 := by
  induction h with
  | nil => exact ⟨(fun j h => by cases h), List.nodup_nil, fun t k h => by cases h⟩
  | @snoc is K V k K' V' hr hk hn hcl hd ih =>
    obtain ⟨i1, i2, i3⟩ := ih
    refine ⟨fun j hj => ?_, List.nodup_append.2 ⟨i2, by simp, fun a ha b hb => by
      obtain rfl := List.mem_singleton.1 hb
      exact fun e => hn (by rw [← e]; exact ha)⟩, fun t k' ht => ?_⟩
    · rcases List.mem_append.1 hj with q | q
      · exact i1 j q
      · obtain rfl := List.mem_singleton.1 q; exact hk
    · rcases Nat.lt_or_ge t is.length with a | a
      · rw [List.getElem?_append_left a] at ht
        obtain ⟨K1, V1, K2, V2, b1, b2, b3, b4⟩ := i3 t k' ht
        rw [List.take_append_of_le_length (by omega)]
        exact ⟨K1, V1, K2, V2, b1, b2, b3, b4⟩
      · rw [List.getElem?_append_right a] at ht
        have ht0 : t - is.length = 0 := by
          rcases Nat.eq_zero_or_pos (t - is.length) with q | q
          · exact q
          · rw [List.getElem?_eq_none (by simp; omega)] at ht; cases ht
        rw [ht0] at ht
        obtain rfl : k = k' := Option.some.inj ht
        obtain rfl : t = is.length := by omega
        rw [List.take_left']
        · exact ⟨K, V, K', V', hr, hn, hcl, hd⟩
        · rfl
theorem take_at {is : List Nat} {s t k : Nat} (hs : is[s]? = some k) (hst : s < t) : k ∈ is.take t := by
  refine List.mem_of_getElem? (i := s) ?_
  rw [List.getElem?_take, if_pos hst]
  exact hs
theorem mem_place {is : List Nat} {k : Nat} (h : k ∈ is) : ∃ t, t < is.length ∧ is[t]? = some k := by
  obtain ⟨i, hi, rfl⟩ := List.getElem_of_mem h
  exact ⟨i, hi, List.getElem?_eq_getElem hi⟩
theorem nodup_idx {is : List Nat} (hn : is.Nodup) {s t k : Nat} (hs : is[s]? = some k) (ht : is[t]? = some k) : s = t :=
  (List.getElem?_inj (List.getElem?_eq_some_iff.1 hs).1 hn).1 (hs.trans ht.symm)
theorem all_in {n : Nat} {is : List Nat} (hn : is.Nodup) (hin : ∀ j ∈ is, j < n) (hl : is.length = n) : ∀ k, k < n → k ∈ is := by
  intro k hk
  refine Classical.byContradiction fun hm => ?_
  have := nodup_len (l1 := k :: is) (l2 := List.range n) (List.nodup_cons.2 ⟨hm, hn⟩) fun x hx => by
    rcases List.mem_cons.1 hx with rfl | q
    · exact List.mem_range.2 hk
    · exact List.mem_range.2 (hin x q)
  simp at this
  omega
/-- an order of all calls in which all that must stand ahead of a call does -/
structure LinExt (cs : List S70) (mk : Mk) (is : List Nat) : Prop where
  len : is.length = cs.length
  nodup : is.Nodup
  lt : ∀ j ∈ is, j < cs.length
  down : ∀ t k, is[t]? = some k → Down cs mk (is.take t) k
theorem made_of_run {cs : List S70} (hc : CsOk cs) {is : List Nat} {K : List Int} {V : List ByteArray} (h : Run cs is K V) (hl : is.length = cs.length) : ∃ mk, madeB cs = some mk ∧ LinExt cs mk is := by
  obtain ⟨h1, h2, h3⟩ := run_take h
  have hall := all_in h2 h1 hl
  have hat : ∀ k, k < cs.length → ∃ t K V K' V', is[t]? = some k ∧ Run cs (is.take t) K V ∧ k ∉ is.take t ∧ (∀ j ∈ is.take t, ¬ (rd_T70 cs (k : Nat)).f1 < (rd_T70 cs (j : Nat)).f0) ∧ DoIs K V (rd_T70 cs (k : Nat)).f2 K' V' (rd_T70 cs (k : Nat)).f3 := fun k hk => by
    obtain ⟨t, _, ht⟩ := mem_place (hall k hk)
    obtain ⟨K, V, K', V', q⟩ := h3 t k ht
    exact ⟨t, K, V, K', V', ht, q⟩
  have huniq : ∀ j k x, j < cs.length → k < cs.length → pubOk (rd_T70 cs (j : Nat)) x → pubOk (rd_T70 cs (k : Nat)) x → ∀ t s : Nat, is[t]? = some k → is[s]? = some j → ¬ s < t := by
    intro j k x hj hk pj pk t s ht hs hst
    obtain ⟨K, V, K', V', r1, _, _, r4⟩ := h3 t k ht
    have hS := run_st r1
    have hx : x ∈ K := (hS.mem x).2 ⟨j, take_at hs hst, pj⟩
    unfold DoIs at r4
    rw [if_pos pk.1] at r4
    obtain ⟨lo, hp, r⟩ := r4
    rw [pk.2.2] at hp r
    rw [if_pos ((found_iff hS.rise hp).2 hx)] at r
    have := pk.2.1
    rw [r.2.2] at this
    cases this
  have hone : ∀ j k x, j < cs.length → k < cs.length → pubOk (rd_T70 cs (j : Nat)) x → pubOk (rd_T70 cs (k : Nat)) x → j = k := by
    intro j k x hj hk pj pk
    obtain ⟨s, _, hs⟩ := mem_place (hall j hj)
    obtain ⟨t, _, ht⟩ := mem_place (hall k hk)
    have a := huniq j k x hj hk pj pk t s ht hs
    have b := huniq k j x hk hj pk pj s t hs ht
    obtain rfl : s = t := by omega
    rw [hs] at ht
    exact Option.some.inj ht
  have hmk : ∀ i, i ≤ cs.length → ∃ mk, mkAt cs i = some mk := by
    intro i
    induction i with
    | zero => intro _; exact ⟨_, rfl⟩
    | succ i ih =>
      intro hi
      obtain ⟨mk, hm⟩ := ih (by omega)
      rw [mkAt_succ, hm, Option.bind_some]
      unfold mstep
      split
      · rename_i hp
        have : mk (rd_T70 cs i).f2.f1 = none := by
          cases q : mk (rd_T70 cs i).f2.f1 with
          | none => rfl
          | some j =>
            obtain ⟨j1, j2⟩ := (mk_iff i mk hm _ _).1 q
            have := hone j i _ (by omega) (by omega) j2 ⟨hp.1, hp.2, rfl⟩
            omega
        rw [if_pos this]
        exact ⟨_, rfl⟩
      · exact ⟨_, rfl⟩
  obtain ⟨mk, hm⟩ := hmk cs.length (Nat.le_refl _)
  have hM := mk_iff _ _ hm
  have hgive : ∀ {t : Nat} {K : List Int} {V : List ByteArray} {x : Int} {v : ByteArray}, StR cs (is.take t) K V → Has K V x v → givenV cs mk x = some v := fun {t K V x v} hS hh => by
    obtain ⟨j, j1, j2, j3⟩ := (hS.has x v).1 hh
    exact given_some.2 ⟨j, (hM x j).2 ⟨h1 j (List.mem_of_mem_take j1), j2⟩, j3⟩
  have hfound : ∀ {K : List Int} {V : List ByteArray} {x : Int} {lo : Nat}, foundB K x lo = true → Has K V x (V.getD lo ⟨#[]⟩) := fun {K V x lo} hf => by
    unfold foundB at hf
    rw [Bool.and_eq_true, decide_eq_true_eq, decide_eq_true_eq] at hf
    exact ⟨lo, hf.1, hf.2, rfl⟩
  have hfit : allFit cs mk cs.length := by
    intro k hk
    obtain ⟨t, K, V, K', V', _, r1, _, _, r4⟩ := hat k hk
    have hS := run_st r1
    unfold fitsB
    show (if (rd_T70 cs (k : Nat)).f2.f0 = 1 then (mk (rd_T70 cs (k : Nat)).f2.f1).isSome else if (rd_T70 cs (k : Nat)).f2.f0 = 2 then !(rd_T70 cs (k : Nat)).f3.f0 || decide (givenV cs mk (rd_T70 cs (k : Nat)).f2.f1 = some (rd_T70 cs (k : Nat)).f3.f1) else decide (snapB cs mk (rd_T70 cs (k : Nat)).f3.f2 (rd_T70 cs (k : Nat)).f3.f3 (rd_T70 cs (k : Nat)).f3.f2.length)) = true
    unfold DoIs at r4
    split at r4
    · rename_i ho
      rw [if_pos ho]
      obtain ⟨lo, hp, r⟩ := r4
      split at r
      · rename_i hf
        have := hgive hS (hfound (V := V) hf)
        obtain ⟨j, hj, _⟩ := given_some.1 this
        rw [hj]
        rfl
      · rw [(hM _ k).2 ⟨hk, ho, by rw [r.2.2], rfl⟩]
        rfl
    · rename_i ho
      rw [if_neg ho]
      split at r4
      · rename_i ho2
        rw [if_pos ho2]
        obtain ⟨lo, hp, _, _, r⟩ := r4
        split at r
        · rename_i hf
          rw [r, decide_eq_true (hgive hS (hfound (V := V) hf))]
          simp
        · rw [r]
          rfl
      · rename_i ho2
        rw [if_neg ho2]
        obtain ⟨_, _, r⟩ := r4
        rw [r]
        exact decide_eq_true fun j hj => hgive hS ⟨j, hj, rfl, rfl⟩
  have hmade : madeB cs = some mk := by
    unfold madeB
    rw [hm, Option.bind_some, if_pos hfit]
  refine ⟨mk, hmade, hl, h2, h1, fun t k ht j hj he => ?_⟩
  have hMM := made_of hmade
  have hk : k < cs.length := h1 k (List.mem_of_getElem? ht)
  obtain ⟨s, _, hs⟩ := mem_place (hall j hj)
  obtain ⟨hne, he⟩ := edge_iff.1 he
  rcases Nat.lt_trichotomy s t with a | a | a
  · exact take_at hs a
  · subst a
    rw [hs] at ht
    exact absurd (Option.some.inj ht) hne
  · exfalso
    obtain ⟨K, V, K', V', r1, _, r3, r4⟩ := h3 s j hs
    obtain ⟨L, U, L', U', q1, q2, q3, q4⟩ := h3 t k ht
    have hS := run_st r1
    have hT := run_st q1
    have hks : k ∈ is.take s := take_at ht a
    have hjt : j ∉ is.take t := fun hm => by
      obtain ⟨u, u1, hu⟩ := mem_place hm
      rw [List.getElem?_take] at hu
      split at hu
      · rename_i hut
        have := nodup_idx h2 hu hs
        omega
      · cases hu
    rcases he with e | e | e
    · exact r3 k hks e
    · obtain ⟨e1, e2⟩ := (saw_iff hMM hj).1 e
      have hx : (rd_T70 cs (j : Nat)).f2.f1 ∈ L := by
        unfold sawTail at e2
        unfold DoIs at q4
        rcases op_kind (hc.op k hk) with o | o | o
        · rw [if_neg (by omega), if_pos o, Bool.and_eq_true, decide_eq_true_eq] at e2
          rw [if_pos o] at q4
          obtain ⟨lo, hp, r⟩ := q4
          split at r
          · rename_i hf
            rw [← e2.1]
            exact (found_iff hT.rise hp).1 hf
          · rw [r.2.2] at e2
            cases e2.2
        · rw [if_neg (by omega), if_neg (by omega), Bool.and_eq_true, decide_eq_true_eq] at e2
          rw [if_neg (by omega), if_pos o] at q4
          obtain ⟨lo, hp, _, _, r⟩ := q4
          split at r
          · rename_i hf
            rw [← e2.1]
            exact (found_iff hT.rise hp).1 hf
          · rw [r] at e2
            cases e2.2
        · rw [if_pos o] at e2
          rw [if_neg (by omega), if_neg (by omega)] at q4
          rw [q4.2.2] at e2
          exact idx_isSome.1 e2
      obtain ⟨i, i1, i2⟩ := (hT.mem _).1 hx
      have := hone i j _ (h1 i (List.mem_of_mem_take i1)) hj i2 e1
      rw [this] at i1
      exact hjt i1
    · obtain ⟨e1, e2⟩ := (missed_iff hMM hk).1 e
      have hx : (rd_T70 cs (k : Nat)).f2.f1 ∈ K := (hS.mem _).2 ⟨k, hks, e1⟩
      unfold missedTail at e2
      unfold DoIs at r4
      rcases op_kind (hc.op j hj) with o | o | o
      · rw [if_neg (by omega), if_neg (by omega)] at e2
        cases e2
      · rw [if_neg (by omega), if_pos o, Bool.and_eq_true, decide_eq_true_eq] at e2
        rw [if_neg (by omega), if_pos o] at r4
        obtain ⟨lo, hp, _, _, r⟩ := r4
        rw [if_pos ((found_iff hS.rise hp).2 (by rw [e2.1]; exact hx))] at r
        rw [r] at e2
        cases e2.2
      · rw [if_pos o] at e2
        rw [if_neg (by omega), if_neg (by omega)] at r4
        rw [r4.2.2] at e2
        rw [idx_isSome.2 hx] at e2
        cases e2
theorem run_of_ext {cs : List S70} (hc : CsOk cs) {mk : Mk} (hm : madeB cs = some mk) {is : List Nat} (h : LinExt cs mk is) : ∃ K V, Run cs is K V := by
  have hM := made_of hm
  have key : ∀ t, t ≤ is.length → ∃ K V, Run cs (is.take t) K V := by
    intro t
    induction t with
    | zero => intro _; exact ⟨[], [], .nil⟩
    | succ t ih =>
      intro ht
      obtain ⟨K, V, hr⟩ := ih (by omega)
      have hk := List.getElem?_eq_getElem (show t < is.length by omega)
      rw [List.take_add_one, hk]
      refine run_step hc hM hr (fun j hj => h.lt j (List.mem_of_mem_take hj)) (fun j hj => ?_) (h.lt _ (List.getElem_mem _)) (fun hm2 => ?_) (h.down t _ hk)
      · obtain ⟨u, u1, hu⟩ := mem_place hj
        rw [List.getElem?_take] at hu
        split at hu
        · rename_i hut
          intro i hi he
          have := h.down u j hu i hi he
          obtain ⟨a, h1, h2⟩ := mem_place this
          rw [List.length_take] at h1
          rw [List.getElem?_take, if_pos (by omega)] at h2
          exact take_at h2 (by omega)
        · cases hu
      · obtain ⟨u, u1, hu⟩ := mem_place hm2
        rw [List.getElem?_take] at hu
        split at hu
        · rename_i hut
          have := nodup_idx h.nodup hu hk
          omega
        · cases hu
  obtain ⟨K, V, hr⟩ := key is.length (Nat.le_refl _)
  rw [List.take_length] at hr
  exact ⟨K, V, hr⟩
/-! ### played is just this -/
theorem cl_inj {cs : List S70} (hc : CsOk cs) {i j : Nat} (hi : i < cs.length) (hj : j < cs.length) (h : (rd_T70 cs (i : Nat)).f0 = (rd_T70 cs (j : Nat)).f0) : i = j := by
  have h : (rd_T70 cs (i : Nat)).f0 = (rd_T70 cs (j : Nat)).f0 := h
  rcases Nat.lt_trichotomy i j with a | a | a
  · have := hc.rise i j a hj; omega
  · exact a
  · have := hc.rise j i a hi; omega
theorem atK_some {cs : List S70} (hc : CsOk cs) {x : Int} {k : Nat} (hk : k < cs.length) (hx : (rd_T70 cs (k : Nat)).f0 = x) : ∀ n, k < n → n ≤ cs.length → atK cs x n = some k := by
  intro n
  induction n with
  | zero => intro h; omega
  | succ n ih =>
    intro h1 h2
    unfold atK
    split
    · rename_i h
      rw [cl_inj hc (show n < cs.length by omega) hk (h.trans hx.symm)]
    · rename_i h
      rcases Nat.lt_or_ge k n with a | a
      · exact ih a (by omega)
      · obtain rfl : k = n := by omega
        exact absurd hx h
theorem atK_val {cs : List S70} {x : Int} {k : Nat} : ∀ {n : Nat}, atK cs x n = some k → (rd_T70 cs (k : Nat)).f0 = x := by
  intro n
  induction n with
  | zero => intro h; cases h
  | succ n ih =>
    intro h
    unfold atK at h
    split at h
    · rename_i hh
      cases h
      exact hh
    · exact ih h
theorem rd_mapcl {cs : List S70} {is : List Nat} {j : Nat} {k : Nat} (h : is[j]? = some k) : rd_T70 (is.map (fun i : Nat => rd_T70 cs (i : Nat))) (j : Nat) = rd_T70 cs (k : Nat) := by
  unfold rd_T70
  rw [Int.toNat_natCast, List.getD_eq_getElem?_getD, List.getElem?_map, h]
  rfl
theorem reach_run {cs : List S70} {os : List Int} {i : Nat} {bef : List S70} {K : List Int} {V : List ByteArray} (h : Reach cs os i bef K V) : i ≤ os.length → ∃ is, Run cs is K V ∧ is.length = i ∧ bef = is.map (fun i : Nat => rd_T70 cs (i : Nat)) ∧ os.take i = froms cs is := by
  induction h with
  | zero => intro _; exact ⟨[], .nil, rfl, rfl, rfl⟩
  | @step i bef K V k K' V' r h0 hk hcl hd hr ih =>
    intro hi
    obtain ⟨is, i1, i2, i3, i4⟩ := ih (by omega)
    subst i3
    have hkl := atK_lt hk
    have hkv := atK_val hk
    have hmem : ∀ j ∈ is, ∃ t, t < (is.map (fun i : Nat => rd_T70 cs (i : Nat))).length ∧ rd_T70 (is.map (fun i : Nat => rd_T70 cs (i : Nat))) (t : Nat) = rd_T70 cs (j : Nat) := fun j hj => by
      obtain ⟨t, t1, t2⟩ := mem_place hj
      exact ⟨t, by simpa using t1, rd_mapcl t2⟩
    subst hr
    refine ⟨is ++ [k], .snoc i1 hkl (fun hm => ?_) (fun j hj => ?_) hd, by simp [i2], by simp, ?_⟩
    · obtain ⟨t, t1, t2⟩ := hmem k hm
      have := (hcl t t1).1
      rw [t2] at this
      exact this hkv
    · obtain ⟨t, t1, t2⟩ := hmem j hj
      have := (hcl t t1).2
      rw [t2] at this
      exact this
    · rw [List.take_add_one, i4, List.getElem?_eq_getElem (show i < os.length by omega)]
      unfold froms
      rw [List.map_append]
      show _ ++ [os[i]] = _ ++ [(rd_T70 cs (k : Nat)).f0]
      rw [hkv, List.getD_eq_getElem?_getD, List.getElem?_eq_getElem (show i < os.length by omega)]
      rfl
theorem run_reach {cs : List S70} (hc : CsOk cs) {is : List Nat} {K : List Int} {V : List ByteArray} (h : Run cs is K V) : ∀ os : List Int, os.take is.length = froms cs is → is.length ≤ os.length → Reach cs os is.length (is.map (fun i : Nat => rd_T70 cs (i : Nat))) K V := by
  induction h with
  | nil => intro os _ _; exact .zero
  | @snoc is K V k K' V' hr hk hn hcl hd ih =>
    intro os ho hl
    rw [List.length_append, List.length_singleton] at ho hl ⊢
    have hin := (run_take hr).1
    unfold froms at ho
    rw [List.map_append, List.take_add_one, List.getElem?_eq_getElem (show is.length < os.length by omega)] at ho
    have hlen : (os.take is.length).length = (is.map fun i : Nat => (rd_T70 cs i).f0).length := by
      rw [List.length_take, List.length_map, Nat.min_eq_left (by omega)]
    obtain ⟨a, b⟩ := List.append_inj ho hlen
    have hx : (rd_T70 cs (k : Nat)).f0 = os.getD is.length 0 := by
      rw [List.getD_eq_getElem?_getD, List.getElem?_eq_getElem (show is.length < os.length by omega)]
      have b2 : [os[is.length]] = [(rd_T70 cs (k : Nat)).f0] := b
      exact (List.cons.inj b2).1.symm
    rw [List.map_append]
    refine .step (ih os a (by omega)) (atK_some hc hk hx cs.length hk (Nat.le_refl _)) (fun j hj => ?_) hd rfl
    rw [List.length_map] at hj
    obtain ⟨m, hm⟩ : ∃ m, is[j]? = some m := ⟨_, List.getElem?_eq_getElem hj⟩
    have hmm := List.mem_of_getElem? hm
    rw [rd_mapcl hm]
    refine ⟨fun e => hn ?_, hcl m hmm⟩
    rw [← cl_inj hc (hin m hmm) hk (e.trans hx.symm)]
    exact hmm
theorem played_iff {cs : List S70} (hc : CsOk cs) (os : List Int) : Played cs os ↔ ∃ is K V, Run cs is K V ∧ is.length = cs.length ∧ os = froms cs is := by
  constructor
  · rintro ⟨h1, bef, K, V, h⟩
    obtain ⟨is, i1, i2, _, i4⟩ := reach_run h (Nat.le_refl _)
    rw [List.take_length] at i4
    exact ⟨is, K, V, i1, by omega, i4⟩
  · rintro ⟨is, K, V, h1, h2, rfl⟩
    have hl : (froms cs is).length = is.length := by unfold froms; simp
    refine ⟨by omega, is.map (fun i : Nat => rd_T70 cs (i : Nat)), K, V, ?_⟩
    rw [hl]
    exact run_reach hc h1 _ (by rw [← hl, List.take_length]) (by omega)
/-- a call that can come next -/
structure Avail (cs : List S70) (mk : Mk) (D : List Nat) (i : Nat) : Prop where
  lt : i < cs.length
  new : i ∉ D
  down : Down cs mk D i
theorem edge_ne {cs : List S70} {mk : Mk} {k i : Nat} (h : edgeB cs mk k i = true) : k ≠ i := (edge_iff.1 h).1
theorem aheadTo_map (cs : List S70) (mk : Mk) (n i : Nat) : ∀ (m : Nat) (h : m ≤ n), (aheadTo cs mk n i m h).map (·.1) = (List.range m).filter fun k => edgeB cs mk k i := by
  intro m
  induction m with
  | zero => intro h; rfl
  | succ m ih =>
    intro h
    unfold aheadTo
    rw [List.map_append, ih, List.range_succ, List.filter_append]
    congr 1
    cases q : edgeB cs mk m i <;> simp [q]
theorem kputs_eq (i : Nat) {n : Nat} (st : KS) (l : List (Nth n)) : kputs i st l = (l.map (·.1)).foldl (kput i) st := by unfold kputs; rw [List.foldl_map]
theorem getD_set {α : Type} (l : List α) (i : Nat) (x d : α) (hi : i < l.length) (m : Nat) : (l.set i x).getD m d = if m = i then x else l.getD m d := by
  rw [List.getD_eq_getElem?_getD, List.getD_eq_getElem?_getD, List.getElem?_set]
  split
  · rename_i h
    subst h
    rw [if_pos rfl]
    rfl
  · rename_i h
    rw [if_neg (fun q => h q.symm)]
theorem wrap_id {x : Int} (h0 : -1000 ≤ x) (h1 : x ≤ 1000) : wrap64 x = x := by unfold wrap64; omega
theorem kput_len (i : Nat) : ∀ (l : List Nat) (st : KS), (l.foldl (kput i) st).1.length = st.1.length ∧ (l.foldl (kput i) st).2.length = st.2.length
  | [], st => ⟨rfl, rfl⟩
  | k :: l, st => by
    rw [List.foldl_cons]
    have := kput_len i l (kput i st k)
    unfold kput at this ⊢
    simpa using this
theorem kput_one (i : Nat) : ∀ (l : List Nat) (st : KS), i < st.1.length → 0 ≤ st.1.getD i 0 → st.1.getD i 0 + l.length ≤ 200 → ∀ m, (l.foldl (kput i) st).1.getD m 0 = if m = i then st.1.getD i 0 + l.length else st.1.getD m 0
  | [], st, hi, h0, h1, m => by
    simp only [List.foldl_nil, List.length_nil]
    split
    · rename_i h; subst h; simp
    · rfl
  | k :: l, st, hi, h0, h1, m => by
    rw [List.foldl_cons]
    rw [List.length_cons] at h1
    have hw : wrap64 (st.1.getD i 0 + 1) = st.1.getD i 0 + 1 := wrap_id (by omega) (by omega)
    have e : ∀ m, (kput i st k).1.getD m 0 = if m = i then st.1.getD i 0 + 1 else st.1.getD m 0 := fun m => by
      unfold kput
      rw [hw]
      exact getD_set st.1 i _ 0 hi m
    have ei := e i
    rw [if_pos rfl] at ei
    rw [kput_one i l (kput i st k) (by unfold kput; simpa using hi) (by rw [ei]; omega) (by rw [ei]; omega) m, ei, e m, List.length_cons]
    split
    · omega
    · rfl
theorem kput_two (i : Nat) : ∀ (l : List Nat) (st : KS), l.Nodup → (∀ k ∈ l, k < st.2.length) → ∀ m, (l.foldl (kput i) st).2.getD m [] = if m ∈ l then st.2.getD m [] ++ [(i : Int)] else st.2.getD m []
  | [], st, _, _, m => by rw [if_neg (by simp)]; rfl
  | k :: l, st, hn, hl, m => by
    rw [List.foldl_cons]
    obtain ⟨n1, n2⟩ := List.nodup_cons.1 hn
    have e : ∀ m, (kput i st k).2.getD m [] = if m = k then st.2.getD k [] ++ [(i : Int)] else st.2.getD m [] := fun m => by
      unfold kput
      exact getD_set st.2 k _ [] (hl k (by simp)) m
    rw [kput_two i l (kput i st k) n2 (fun j hj => by unfold kput; simpa using hl j (by simp [hj])) m, e m]
    by_cases h : m = k
    · subst h
      rw [if_neg n1, if_pos rfl, if_pos (by simp)]
    · rw [if_neg h]
      by_cases g : m ∈ l
      · rw [if_pos g, if_pos (by simp [g])]
      · rw [if_neg g, if_neg (by simp [h, g])]
/-- the calls that must stand ahead of call m; that call m must stand ahead of -/
def preds (cs : List S70) (mk : Mk) (m : Nat) : List Nat := (List.range cs.length).filter fun k => edgeB cs mk k m
def succs (cs : List S70) (mk : Mk) (k i : Nat) : List Nat := (List.range i).filter fun m => edgeB cs mk k m
theorem preds_len (cs : List S70) (mk : Mk) (m : Nat) : (preds cs mk m).length ≤ cs.length := by
  unfold preds
  have := List.length_filter_le (fun k => edgeB cs mk k m) (List.range cs.length)
  simpa using this
theorem pst_at {cs : List S70} (hn : cs.length ≤ 64) (mk : Mk) : ∀ i, i ≤ cs.length → (pst cs mk i).1.length = cs.length ∧ (pst cs mk i).2.length = cs.length ∧
    (∀ m, m < cs.length → (pst cs mk i).1.getD m 0 = if m < i then ((preds cs mk m).length : Int) else 0) ∧ ∀ k, k < cs.length → (pst cs mk i).2.getD k [] = (succs cs mk k i).map fun x : Nat => (x : Int) := by
  intro i
  induction i with
  | zero =>
    intro _
    refine ⟨by simp [pst], by simp [pst], fun m hm => ?_, fun k hk => ?_⟩
    · rw [if_neg (Nat.not_lt_zero _)]
      simp [pst, List.getD_eq_getElem?_getD, hm]
    · simp [pst, List.getD_eq_getElem?_getD, hk, succs]
  | succ i ih =>
    intro hi
    obtain ⟨a1, a2, a3, a4⟩ := ih (by omega)
    have hp : pst cs mk (i + 1) = (preds cs mk i).foldl (kput i) (pst cs mk i) := by
      show kputs i (pst cs mk i) (aheadTo cs mk cs.length i cs.length (Nat.le_refl _)) = _
      rw [kputs_eq, aheadTo_map]
      rfl
    have hpl := preds_len cs mk i
    have hz : (pst cs mk i).1.getD i 0 = 0 := by rw [a3 i (by omega), if_neg (Nat.lt_irrefl _)]
    obtain ⟨b1, b2⟩ := kput_len i (preds cs mk i) (pst cs mk i)
    have c1 := kput_one i (preds cs mk i) (pst cs mk i) (by omega) (by omega) (by omega)
    have c2 := kput_two i (preds cs mk i) (pst cs mk i) (List.Pairwise.filter _ List.nodup_range) fun k hk => by
      unfold preds at hk
      have := List.mem_range.1 (List.mem_filter.1 hk).1
      omega
    rw [hp]
    refine ⟨by omega, by omega, fun m hm => ?_, fun k hk => ?_⟩
    · rw [c1 m]
      split
      · rename_i h
        subst h
        rw [hz, if_pos (by omega)]
        omega
      · rename_i h
        rw [a3 m hm]
        by_cases q : m < i
        · rw [if_pos q, if_pos (by omega)]
        · rw [if_neg q, if_neg (by omega)]
    · rw [c2 k, a4 k hk]
      have hm : k ∈ preds cs mk i ↔ edgeB cs mk k i = true := by unfold preds; simp [List.mem_filter, hk]
      unfold succs
      rw [List.range_succ, List.filter_append, List.map_append]
      by_cases q : edgeB cs mk k i = true
      · rw [if_pos (hm.2 q)]
        simp [q]
      · rw [if_neg (fun h => q (hm.1 h))]
        simp [q]
/-! ### the second loop -/
/-- how many that must stand ahead of call m are not there yet -/
def cntO (cs : List S70) (mk : Mk) (out : List Nat) (m : Nat) : Nat := ((List.range cs.length).filter fun j => edgeB cs mk j m && decide (j ∉ out)).length
theorem cnt_zero {cs : List S70} {mk : Mk} {out : List Nat} {m : Nat} : cntO cs mk out m = 0 ↔ Down cs mk out m := by
  unfold cntO Down
  rw [List.length_eq_zero_iff, List.filter_eq_nil_iff]
  constructor
  · intro h j hj he
    have := h j (List.mem_range.2 hj)
    rw [he, Bool.true_and, decide_eq_true_eq] at this
    exact Classical.byContradiction this
  · intro h j hj he
    rw [Bool.and_eq_true, decide_eq_true_eq] at he
    exact he.2 (h j (List.mem_range.1 hj) he.1)
theorem filter_less {l : List Nat} (p : Nat → Bool) (i : Nat) : l.Nodup → i ∈ l → (l.filter p).length = (l.filter fun j => p j && decide (j ≠ i)).length + if p i = true then 1 else 0 := by
  induction l with
  | nil => intro _ h; cases h
  | cons a l ih =>
    intro hn hi
    obtain ⟨n1, n2⟩ := List.nodup_cons.1 hn
    by_cases h : a = i
    · subst h
      have : (l.filter fun j => p j && decide (j ≠ a)) = l.filter p := List.filter_congr fun j hj => by
        have : j ≠ a := fun e => n1 (by rw [← e]; exact hj)
        simp [this]
      rw [List.filter_cons, List.filter_cons, this]
      cases p a <;> simp
    · have := ih n2 (by rcases List.mem_cons.1 hi with q | q; exact absurd q.symm h; exact q)
      rw [List.filter_cons, List.filter_cons]
      cases q : p a
      · simpa [q] using this
      · simp only [Bool.true_and, decide_eq_true (show a ≠ i from h), if_true, List.length_cons]
        omega
theorem cnt_put {cs : List S70} {mk : Mk} {out : List Nat} {i m : Nat} (hi : i < cs.length) (hn : i ∉ out) : cntO cs mk out m = cntO cs mk (out ++ [i]) m + if edgeB cs mk i m = true then 1 else 0 := by
  unfold cntO
  rw [filter_less (fun j => edgeB cs mk j m && decide (j ∉ out)) i List.nodup_range (List.mem_range.2 hi)]
  congr 1
  · congr 1
    refine List.filter_congr fun j _ => ?_
    rw [Bool.and_assoc]
    congr 1
    rw [← Bool.decide_and]
    exact decide_eq_decide.2 ⟨fun ⟨a, b⟩ => by simp [a, b], fun h => by simpa using h⟩
  · rw [decide_eq_true hn, Bool.and_true]
theorem dec_at : ∀ (l : List Nat) (ws : List Int), l.Nodup → (∀ k ∈ l, k < ws.length) → (∀ m ∈ l, -1 ≤ ws.getD m 0 ∧ ws.getD m 0 ≤ 200) → ∀ m, ((l.map fun x : Nat => (x : Int)).foldl dec1 ws).getD m 0 = if m ∈ l then ws.getD m 0 - 1 else ws.getD m 0 := by
  intro l
  induction l with
  | nil => intro ws _ _ _ m; rw [if_neg (by simp)]; rfl
  | cons k l ih =>
    intro ws hn hl hb m
    obtain ⟨n1, n2⟩ := List.nodup_cons.1 hn
    rw [List.map_cons, List.foldl_cons]
    have hk := hb k (by simp)
    have hw : wrap64 (ws.getD k 0 - 1) = ws.getD k 0 - 1 := wrap_id (by omega) (by omega)
    have e : dec1 ws (k : Int) = ws.set k (ws.getD k 0 - 1) := by
      unfold dec1
      rw [Int.toNat_natCast, hw]
    have e2 : ∀ m, (ws.set k (ws.getD k 0 - 1)).getD m 0 = if m = k then ws.getD k 0 - 1 else ws.getD m 0 := getD_set ws k _ 0 (hl k (by simp))
    rw [e, ih _ n2 (fun j hj => by simpa using hl j (by simp [hj])) (fun j hj => by
      rw [e2 j, if_neg (fun q => n1 (by rw [← q]; exact hj))]
      exact hb j (by simp [hj])) m, e2 m]
    by_cases h : m = k
    · subst h
      rw [if_neg n1, if_pos rfl, if_pos (by simp)]
    · rw [if_neg h]
      by_cases g : m ∈ l
      · rw [if_pos g, if_pos (by simp [g])]
      · rw [if_neg g, if_neg (by simp [h, g])]
/-- an order's beginning, each call the least that can come next -/
structure Least (cs : List S70) (mk : Mk) (out : List Nat) : Prop where
  nodup : out.Nodup
  lt : ∀ j ∈ out, j < cs.length
  next : ∀ t k, out[t]? = some k → Avail cs mk (out.take t) k ∧ ∀ i, i < k → ¬ Avail cs mk (out.take t) i
theorem Least.nil (cs : List S70) (mk : Mk) : Least cs mk [] := ⟨List.nodup_nil, (fun j h => by cases h), (fun t k h => by cases h)⟩
theorem snoc_at {l : List Nat} {i t k : Nat} (h : (l ++ [i])[t]? = some k) : (t < l.length ∧ l[t]? = some k) ∨ (t = l.length ∧ k = i) := by
  rcases Nat.lt_or_ge t l.length with a | a
  · rw [List.getElem?_append_left a] at h
    exact .inl ⟨a, h⟩
  · rw [List.getElem?_append_right a] at h
    have ht0 : t - l.length = 0 := by
      rcases Nat.eq_zero_or_pos (t - l.length) with q | q
      · exact q
      · rw [List.getElem?_eq_none (by simp; omega)] at h; cases h
    rw [ht0] at h
    exact .inr ⟨by omega, (Option.some.inj h).symm⟩
theorem Least.snoc {cs : List S70} {mk : Mk} {out : List Nat} (h : Least cs mk out) {i : Nat} (hi : Avail cs mk out i) (hl : ∀ j, j < i → ¬ Avail cs mk out j) : Least cs mk (out ++ [i]) := by
  refine ⟨List.nodup_append.2 ⟨h.nodup, by simp, fun a ha b hb => by
    obtain rfl := List.mem_singleton.1 hb
    exact fun e => hi.new (by rw [← e]; exact ha)⟩, fun j hj => ?_, fun t k ht => ?_⟩
  · rcases List.mem_append.1 hj with q | q
    · exact h.lt j q
    · obtain rfl := List.mem_singleton.1 q; exact hi.lt
  · rcases snoc_at ht with ⟨a, b⟩ | ⟨rfl, rfl⟩
    · rw [List.take_append_of_le_length (by omega)]
      exact h.next t k b
    · rw [List.take_left' rfl]
      exact ⟨hi, hl⟩
theorem Least.down {cs : List S70} {mk : Mk} {out : List Nat} (h : Least cs mk out) : ∀ j ∈ out, Down cs mk out j := by
  intro j hj i hi he
  obtain ⟨t, _, ht⟩ := mem_place hj
  exact List.mem_of_mem_take ((h.next t j ht).1.down i hi he)
theorem Least.ext {cs : List S70} {mk : Mk} {out : List Nat} (h : Least cs mk out) (hl : out.length = cs.length) : LinExt cs mk out :=
  ⟨hl, h.nodup, h.lt, fun t k ht => (h.next t k ht).1.down⟩
theorem Least.one {cs : List S70} {mk : Mk} {a b : List Nat} (ha : Least cs mk a) (hb : Least cs mk b) (hl : a.length = b.length) : a = b := by
  have key : ∀ t, t ≤ a.length → a.take t = b.take t := by
    intro t
    induction t with
    | zero => intro _; rfl
    | succ t ih =>
      intro ht
      have e := ih (by omega)
      have ka := List.getElem?_eq_getElem (show t < a.length by omega)
      have kb := List.getElem?_eq_getElem (show t < b.length by omega)
      have na := ha.next t _ ka
      have nb := hb.next t _ kb
      rw [← e] at nb
      have : a[t] = b[t] := by
        rcases Nat.lt_trichotomy a[t] b[t] with q | q | q
        · exact absurd na.1 (nb.2 _ q)
        · exact q
        · exact absurd nb.1 (na.2 _ q)
      rw [List.take_add_one, List.take_add_one, e, ka, kb, this]
  have := key a.length (Nat.le_refl _)
  rw [List.take_length, hl, List.take_length] at this
  exact this
/-- the state of the second loop -/
structure KI (cs : List S70) (mk : Mk) (out : List Nat) (ws : List Int) : Prop where
  least : Least cs mk out
  len : ws.length = cs.length
  at_ : ∀ m, m < cs.length → ws.getD m 0 = if m ∈ out then -1 else (cntO cs mk out m : Int)
theorem cnt_le (cs : List S70) (mk : Mk) (out : List Nat) (m : Nat) : cntO cs mk out m ≤ cs.length := by
  unfold cntO
  have := List.length_filter_le (fun j => edgeB cs mk j m && decide (j ∉ out)) (List.range cs.length)
  simpa using this
theorem KI.avail {cs : List S70} {mk : Mk} {out : List Nat} {ws : List Int} (h : KI cs mk out ws) {m : Nat} (hm : m < cs.length) : ws.getD m 0 = 0 ↔ Avail cs mk out m := by
  rw [h.at_ m hm]
  split
  · rename_i q
    exact ⟨fun e => by omega, fun e => absurd q e.new⟩
  · rename_i q
    exact ⟨fun e => ⟨hm, q, cnt_zero.1 (by omega)⟩, fun e => by rw [cnt_zero.2 e.down]; rfl⟩
theorem ki_zero {cs : List S70} (hn : cs.length ≤ 64) (mk : Mk) : KI cs mk [] (pst cs mk cs.length).1 := by
  obtain ⟨a1, _, a3, _⟩ := pst_at hn mk cs.length (Nat.le_refl _)
  refine ⟨Least.nil cs mk, a1, fun m hm => ?_⟩
  rw [a3 m hm, if_pos hm, if_neg (by simp)]
  unfold preds cntO
  simp
theorem ki_step {cs : List S70} (hn : cs.length ≤ 64) {mk : Mk} {out : List Nat} {ws : List Int} (h : KI cs mk out ws) {i : Nat} (hi : idx ws 0 = some i) :
    KI cs mk (out ++ [i]) (((pst cs mk cs.length).2.getD i []).foldl dec1 (ws.set i (-1))) := by
  obtain ⟨i1, i2, i3⟩ := idx_some hi
  have hlt : i < cs.length := by rw [← h.len]; exact i1
  have hav := (h.avail hlt).1 i2
  have hls : ∀ j, j < i → ¬ Avail cs mk out j := fun j hj q => i3 j hj ((h.avail (by omega)).2 q)
  obtain ⟨_, _, _, a4⟩ := pst_at hn mk cs.length (Nat.le_refl _)
  have hset : ∀ m, (ws.set i (-1)).getD m 0 = if m = i then -1 else ws.getD m 0 := getD_set ws i _ 0 i1
  have hws : ∀ m, -1 ≤ ws.getD m 0 ∧ ws.getD m 0 ≤ 200 := fun m => by
    rcases Nat.lt_or_ge m cs.length with q | q
    · rw [h.at_ m q]
      have := cnt_le cs mk out m
      split <;> omega
    · rw [List.getD_eq_getElem?_getD, List.getElem?_eq_none (by rw [h.len]; exact q)]
      exact ⟨by decide, by decide⟩
  have hdec := dec_at (succs cs mk i cs.length) (ws.set i (-1)) (List.Pairwise.filter _ List.nodup_range) (fun k hk => by
    unfold succs at hk
    have := List.mem_range.1 (List.mem_filter.1 hk).1
    rw [List.length_set, h.len]
    exact this) fun m _ => by
      rw [hset m]
      split
      · exact ⟨by decide, by decide⟩
      · exact hws m
  refine ⟨h.least.snoc hav hls, by rw [dec_len, List.length_set]; exact h.len, fun m hm => ?_⟩
  rw [a4 i hlt, hdec m, hset m]
  have hms : m ∈ succs cs mk i cs.length ↔ edgeB cs mk i m = true := by unfold succs; simp [List.mem_filter, hm]
  by_cases e : m = i
  · subst e
    rw [if_neg (fun q => edge_ne (hms.1 q) rfl), if_pos rfl, if_pos (by simp)]
  · rw [if_neg e, h.at_ m hm]
    by_cases q : m ∈ out
    · have hne : ¬ m ∈ succs cs mk i cs.length := fun s => hav.new (h.least.down m q i hlt (hms.1 s))
      rw [if_neg hne, if_pos q, if_pos (by simp [q])]
    · rw [if_neg q, if_neg (show ¬ m ∈ out ++ [i] by simp [q, e]), cnt_put hlt hav.new]
      by_cases s : edgeB cs mk i m = true
      · rw [if_pos (hms.2 s), if_pos s]
        omega
      · rw [if_neg (fun t => s (hms.1 t)), if_neg s]
        rfl
theorem kat_ki {cs : List S70} (hn : cs.length ≤ 64) {mk : Mk} : ∀ (j : Nat) (st : List Nat × List Int), kat (pst cs mk cs.length).2 (pst cs mk cs.length).1 j = some st → KI cs mk st.1 st.2 := by
  intro j
  induction j with
  | zero => intro st h; cases h; exact ki_zero hn mk
  | succ j ih =>
    intro st h
    obtain ⟨s1, h1, h2⟩ := Option.bind_eq_some_iff.1 h
    have I := ih s1 h1
    unfold kstep at h2
    obtain ⟨i, hi, rfl⟩ := Option.map_eq_some_iff.1 h2
    exact ki_step hn I hi
theorem ord_some {cs : List S70} (hn : cs.length ≤ 64) {mk : Mk} {os : List Nat} (h : ordB cs mk = some os) : Least cs mk os ∧ os.length = cs.length := by
  unfold ordB at h
  obtain ⟨st, h1, rfl⟩ := Option.map_eq_some_iff.1 h
  exact ⟨(kat_ki hn _ st h1).least, (kat_len _ st h1).1⟩
/-- while an order of all is there something can come next -/
theorem avail_ex {cs : List S70} {mk : Mk} {is : List Nat} (h : LinExt cs mk is) {D : List Nat} (hD : D.length < cs.length) : ∃ i, Avail cs mk D i := by
  have key : ∀ t k : Nat, is[t]? = some k → k ∉ D → ∃ i, Avail cs mk D i := by
    intro t
    induction t using Nat.strongRecOn with
    | ind t ih =>
      intro k hk hn
      by_cases hd : Down cs mk D k
      · exact ⟨k, h.lt k (List.mem_of_getElem? hk), hn, hd⟩
      · have : ∃ j, j < cs.length ∧ edgeB cs mk j k = true ∧ j ∉ D := by
          refine Classical.byContradiction fun hne => hd fun j hj he => Classical.byContradiction fun hm => hne ⟨j, hj, he, hm⟩
        obtain ⟨j, j1, j2, j3⟩ := this
        obtain ⟨s, s1, s2⟩ := mem_place (h.down t k hk j j1 j2)
        rw [List.length_take] at s1
        rw [List.getElem?_take, if_pos (by omega)] at s2
        exact ih s (by omega) j s2 j3
  have : ∃ k, k ∈ is ∧ k ∉ D := by
    refine Classical.byContradiction fun hne => ?_
    have := nodup_len h.nodup fun x hx => Classical.byContradiction fun hm => hne ⟨x, hx, hm⟩
    have := h.len
    omega
  obtain ⟨k, k1, k2⟩ := this
  obtain ⟨t, _, ht⟩ := mem_place k1
  exact key t k ht k2
theorem ord_ex {cs : List S70} (hn : cs.length ≤ 64) {mk : Mk} {is : List Nat} (h : LinExt cs mk is) : ∃ os, ordB cs mk = some os := by
  have key : ∀ j, j ≤ cs.length → ∃ st, kat (pst cs mk cs.length).2 (pst cs mk cs.length).1 j = some st := by
    intro j
    induction j with
    | zero => intro _; exact ⟨_, rfl⟩
    | succ j ih =>
      intro hj
      obtain ⟨st, hst⟩ := ih (by omega)
      have I := kat_ki hn j st hst
      have hlen := (kat_len j st hst).1
      obtain ⟨i, hi⟩ := avail_ex h (D := st.1) (by omega)
      cases q : idx st.2 0 with
      | none =>
        have := idx_none q i (by rw [I.len]; exact hi.lt)
        exact absurd ((I.avail hi.lt).2 hi) this
      | some m =>
        refine ⟨(st.1 ++ [m], ((pst cs mk cs.length).2.getD m []).foldl dec1 (st.2.set m (-1))), ?_⟩
        show (kat _ _ j).bind _ = _
        rw [hst, Option.bind_some]
        unfold kstep
        rw [q]
        rfl
  obtain ⟨st, hst⟩ := key cs.length (Nat.le_refl _)
  exact ⟨st.1, by unfold ordB; rw [hst]; rfl⟩
/-- what is told of calls -/
def toldB (cs : List S70) : Option (List Int) := (madeB cs).bind fun mk => (ordB cs mk).map (froms cs)
theorem told_some {cs : List S70} (hc : CsOk cs) {os : List Int} (h : toldB cs = some os) : Played cs os := by
  unfold toldB at h
  obtain ⟨mk, h1, h2⟩ := Option.bind_eq_some_iff.1 h
  obtain ⟨is, h3, rfl⟩ := Option.map_eq_some_iff.1 h2
  obtain ⟨a, b⟩ := ord_some hc.few h3
  obtain ⟨K, V, hr⟩ := run_of_ext hc h1 (a.ext b)
  exact (played_iff hc _).2 ⟨is, K, V, hr, b, rfl⟩
theorem told_none {cs : List S70} (hc : CsOk cs) (h : toldB cs = none) (os : List Int) : ¬ Played cs os := by
  intro hp
  obtain ⟨is, K, V, h1, h2, _⟩ := (played_iff hc os).1 hp
  obtain ⟨mk, m1, m2⟩ := made_of_run hc h1 h2
  obtain ⟨o, ho⟩ := ord_ex hc.few m2
  unfold toldB at h
  rw [m1, Option.bind_some, ho] at h
  cases h
theorem ordP_told {l0 : List S45} : ordP l0 = (readB l0).map toldB := rfl
/-- from call i on, r calls: each that is not in the head is tried next -/
def tryL (cs : List S70) (f : List Int → List Int) (head : List Int) : Nat → Nat → List Int
  | 0, _ => []
  | r + 1, i => if (rd_T70 cs (i : Nat)).f0 ∈ head then tryL cs f head r (i + 1) else if (f (head ++ [(rd_T70 cs (i : Nat)).f0])).length = 0 then tryL cs f head r (i + 1) else f (head ++ [(rd_T70 cs (i : Nat)).f0])
open Classical in
/-- d calls are wanting -/
noncomputable def tryB (cs : List S70) : Nat → List Int → List Int
  | 0, head => if Played cs head then head else []
  | d + 1, head => tryL cs (tryB cs d) head cs.length 0
theorem froms_inj {cs : List S70} (hc : CsOk cs) : ∀ {a b : List Nat}, (∀ i ∈ a, i < cs.length) → (∀ i ∈ b, i < cs.length) → froms cs a = froms cs b → a = b := by
  intro a
  induction a with
  | nil =>
    intro b _ _ h
    cases b with
    | nil => rfl
    | cons x b => cases h
  | cons x a ih =>
    intro b ha hb h
    cases b with
    | nil => cases h
    | cons y b =>
      unfold froms at h
      rw [List.map_cons, List.map_cons] at h
      injection h with h1 h2
      rw [cl_inj hc (ha x (by simp)) (hb y (by simp)) h1, ih (fun i hi => ha i (by simp [hi])) (fun i hi => hb i (by simp [hi])) h2]
theorem tryL_some {cs : List S70} {f : List Int → List Int} {head : List Int} : ∀ (r i : Nat), (tryL cs f head r i).length ≠ 0 → ∃ j, i ≤ j ∧ j < i + r ∧ tryL cs f head r i = f (head ++ [(rd_T70 cs (j : Nat)).f0]) := by
  intro r
  induction r with
  | zero => intro i h; exact absurd rfl h
  | succ r ih =>
    intro i h
    unfold tryL at h ⊢
    split at h
    · rename_i hm
      rw [if_pos hm]
      obtain ⟨j, a, b, c⟩ := ih (i + 1) h
      exact ⟨j, by omega, by omega, c⟩
    · rename_i hm
      rw [if_neg hm]
      split at h
      · rename_i hz
        rw [if_pos hz]
        obtain ⟨j, a, b, c⟩ := ih (i + 1) h
        exact ⟨j, by omega, by omega, c⟩
      · rename_i hz
        rw [if_neg hz]
        exact ⟨i, Nat.le_refl _, by omega, rfl⟩
theorem try_some {cs : List S70} : ∀ (d : Nat) (head : List Int), (tryB cs d head).length ≠ 0 → Played cs (tryB cs d head) ∧ ∃ rest, tryB cs d head = head ++ rest := by
  intro d
  induction d with
  | zero =>
    intro head h
    unfold tryB at h ⊢
    split at h
    · rename_i hp
      rw [if_pos hp]
      exact ⟨hp, [], by simp⟩
    · exact absurd rfl h
  | succ d ih =>
    intro head h
    unfold tryB at h ⊢
    obtain ⟨j, _, _, c⟩ := tryL_some cs.length 0 h
    rw [c] at h ⊢
    obtain ⟨a, rest, b⟩ := ih _ h
    exact ⟨a, _, by rw [b, List.append_assoc]⟩
theorem tryL_skip {cs : List S70} {f : List Int → List Int} {head : List Int} {m : Nat} : ∀ (k r i : Nat), i + k = m → k ≤ r → (∀ j, i ≤ j → j < m → (rd_T70 cs (j : Nat)).f0 ∈ head ∨ (f (head ++ [(rd_T70 cs (j : Nat)).f0])).length = 0) → tryL cs f head r i = tryL cs f head (r - k) m := by
  intro k
  induction k with
  | zero => intro r i h1 _ _; rw [show i = m by omega, Nat.sub_zero]
  | succ k ih =>
    intro r i h1 h2 h
    obtain ⟨q, rfl⟩ : ∃ q, r = q + 1 := ⟨r - 1, by omega⟩
    rw [show q + 1 - (k + 1) = q - k by omega, ← ih q (i + 1) (by omega) (by omega) fun j a b => h j (by omega) b]
    show (if (rd_T70 cs (i : Nat)).f0 ∈ head then tryL cs f head q (i + 1) else if (f (head ++ [(rd_T70 cs (i : Nat)).f0])).length = 0 then tryL cs f head q (i + 1) else f (head ++ [(rd_T70 cs (i : Nat)).f0])) = _
    rcases h i (Nat.le_refl _) (by omega) with a | a
    · rw [if_pos a]
    · by_cases b : (rd_T70 cs (i : Nat)).f0 ∈ head
      · rw [if_pos b]
      · rw [if_neg b, if_pos a]
theorem froms_mem {cs : List S70} (hc : CsOk cs) {is : List Nat} (hi : ∀ i ∈ is, i < cs.length) {k : Nat} (hk : k < cs.length) : (rd_T70 cs (k : Nat)).f0 ∈ froms cs is ↔ k ∈ is := by
  unfold froms
  rw [List.mem_map]
  constructor
  · rintro ⟨j, h1, h2⟩
    rw [← cl_inj hc (hi j h1) hk h2]
    exact h1
  · intro h
    exact ⟨k, h, rfl⟩
/-- trying comes to the least order -/
theorem try_least {cs : List S70} (hc : CsOk cs) {mk : Mk} (hm : madeB cs = some mk) {os : List Nat} (ho : Least cs mk os) (hl : os.length = cs.length) : ∀ d t, t + d = cs.length → tryB cs d (froms cs (os.take t)) = froms cs os := by
  intro d
  induction d with
  | zero =>
    intro t ht
    have ht : os.length = t := by omega
    rw [← ht, List.take_length]
    obtain ⟨K, V, hr⟩ := run_of_ext hc hm (ho.ext hl)
    unfold tryB
    exact if_pos ((played_iff hc _).2 ⟨os, K, V, hr, hl, rfl⟩)
  | succ d ih =>
    intro t ht
    have hlt : t < os.length := by omega
    obtain ⟨k, hk⟩ : ∃ k, os[t]? = some k := ⟨_, List.getElem?_eq_getElem hlt⟩
    obtain ⟨hav, hno⟩ := ho.next t k hk
    have hti : ∀ i ∈ os.take t, i < cs.length := fun i hi => ho.lt i (List.mem_of_mem_take hi)
    have hsnoc : ∀ i, froms cs (os.take t) ++ [(rd_T70 cs (i : Nat)).f0] = froms cs (os.take t ++ [i]) := fun i => by unfold froms; rw [List.map_append]; rfl
    have hskip := tryL_skip (cs := cs) (f := tryB cs d) (head := froms cs (os.take t)) (m := k) k cs.length 0 (by omega) (Nat.le_of_lt hav.lt) fun j _ hj => by
      by_cases hmem : j ∈ os.take t
      · exact .inl ((froms_mem hc hti (by have := hav.lt; omega)).2 hmem)
      · refine .inr (Classical.byContradiction fun hne => hno j hj ?_)
        obtain ⟨hp, rest, hr⟩ := try_some d _ hne
        rw [hr] at hp
        obtain ⟨is, K, V, h1, h2, h3⟩ := (played_iff hc _).1 hp
        obtain ⟨mk', m1, m2⟩ := made_of_run hc h1 h2
        rw [hm] at m1
        obtain rfl := Option.some.inj m1
        rw [hsnoc] at h3
        have e : os.take t ++ [j] = is.take (t + 1) := by
          refine froms_inj hc (fun i hi => ?_) (fun i hi => m2.lt i (List.mem_of_mem_take hi)) ?_
          · rcases List.mem_append.1 hi with q | q
            · exact hti i q
            · obtain rfl := List.mem_singleton.1 q
              have := hav.lt
              omega
          · have hlen : (froms cs (os.take t ++ [j])).length = t + 1 := by unfold froms; simp; omega
            have e2 : froms cs (is.take (t + 1)) = (froms cs is).take (t + 1) := by unfold froms; rw [List.map_take]
            rw [e2, ← h3, ← hlen, List.take_left' rfl]
        have hj : is[t]? = some j := by
          have : (is.take (t + 1))[t]? = some j := by
            rw [← e, List.getElem?_append_right (by rw [List.length_take]; omega), List.length_take, Nat.min_eq_left (by omega), Nat.sub_self]
            rfl
          rw [List.getElem?_take, if_pos (by omega)] at this
          exact this
        have e3 : is.take t = os.take t := by
          have := congrArg (List.take t) e
          rw [List.take_append_of_le_length (by rw [List.length_take]; omega), List.take_take, List.take_take, Nat.min_self, Nat.min_eq_left (by omega)] at this
          exact this.symm
        have := m2.down t j hj
        rw [e3] at this
        exact ⟨by have := hav.lt; omega, hmem, this⟩
    show tryL cs (tryB cs d) (froms cs (os.take t)) cs.length 0 = _
    rw [hskip]
    obtain ⟨q, hq⟩ : ∃ q, cs.length - k = q + 1 := ⟨cs.length - k - 1, by have := hav.lt; omega⟩
    have e4 : froms cs (os.take t) ++ [(rd_T70 cs (k : Nat)).f0] = froms cs (os.take (t + 1)) := by
      rw [hsnoc, List.take_add_one, hk]
      rfl
    have hI := ih (t + 1) (by omega)
    rw [hq]
    show (if (rd_T70 cs (k : Nat)).f0 ∈ froms cs (os.take t) then tryL cs (tryB cs d) (froms cs (os.take t)) q (k + 1) else if (tryB cs d (froms cs (os.take t) ++ [(rd_T70 cs (k : Nat)).f0])).length = 0 then tryL cs (tryB cs d) (froms cs (os.take t)) q (k + 1) else tryB cs d (froms cs (os.take t) ++ [(rd_T70 cs (k : Nat)).f0])) = _
    rw [if_neg (fun h => hav.new ((froms_mem hc hti hav.lt).1 h)), e4, hI, if_neg (by unfold froms; rw [List.length_map]; omega)]
theorem try_none {cs : List S70} (h : ∀ os, ¬ Played cs os) (d : Nat) (head : List Int) : tryB cs d head = [] := by
  refine Classical.byContradiction fun hne => ?_
  exact h _ (try_some d head fun q => hne (List.eq_nil_of_length_eq_zero q)).1
/-- what trying comes to, at all -/
theorem try_told {cs : List S70} (hc : CsOk cs) : tryB cs cs.length [] = (toldB cs).getD [] := by
  cases h : toldB cs with
  | none => exact try_none (told_none hc h) _ _
  | some os =>
    unfold toldB at h
    obtain ⟨mk, h1, h2⟩ := Option.bind_eq_some_iff.1 h
    obtain ⟨is, h3, rfl⟩ := Option.map_eq_some_iff.1 h2
    obtain ⟨a, b⟩ := ord_some hc.few h3
    have := try_least hc h1 a b cs.length 0 (by omega)
    rw [List.take_zero] at this
    exact this
theorem told_len {cs : List S70} (hc : CsOk cs) {os : List Int} (h : toldB cs = some os) : os.length = cs.length := (told_some hc h).1
theorem told_zero {cs : List S70} (hc : CsOk cs) (h : toldB cs = none) : cs.length ≠ 0 := fun h0 => told_none hc h [] ⟨h0.symm, [], [], [], .zero⟩
/-- a list of whole numbers that is answered -/
def IntsOut (w w' : World) (e : Ending) (out : List Int) : Prop := Below w.heap.size w w' ∧ ∃ A c, e = .returned (.slice A out.length c) ∧ out.length ≤ c ∧ (Kd.int .i64).C w' A out.length out
theorem ints_nil (w : World) : (Kd.int .i64).C w none ([] : List Int).length [] := ⟨rfl, Nat.zero_le _, fun h => absurd h (Nat.lt_irrefl _)⟩
theorem lt_alloc (w : World) (o : Obj) : w.heap.size < (w.alloc o).drew.heap.size := by simp
structure Copied (w w' : World) (v : Value) (l : List Int) : Prop where
  row : w'.ownsRow w.heap.size 3 1 v l.length (encs (Value.int .i64) l)
  below : Below w.heap.size w w'
theorem copyInts_own (w V : World) (A : Option Addr) (c : Nat) (l : List Int) (hr : (Kd.int .i64).C w A l.length l) (hc : l.length ≤ c) (hl : l.length ≤ 1099511627777) (hb : Below w.heap.size w V) :
    Calls Try.prog 34 #[.slice A l.length c] V fun e w' => ∃ v, e = .returned v ∧ Copied w w' v l ∧ Below V.heap.size V w' :=
  (fugueref00_CopyInts.calls (l.length + 1) A c l l V (Kd.C_below hr hb) hc (copyInts_some l hl)).mono fun _ _ ⟨v, h1, h2, h3⟩ => ⟨v, h1, ⟨own_weaken (Kd.own_of_R h2) (below_size hb), below_step hb h3⟩, h3⟩
theorem Copied.cell {w w' : World} {v : Value} {l : List Int} (h : Copied w w' v l) {p : Addr} {u : Value} (hc : w.cell? p = some u) : w'.cell? p = some u := (h.below.cell (World.block_lt_of_cell? w _ hc)).trans hc
theorem Copied.cellA {w w' : World} {v : Value} {l : List Int} (h : Copied w w' v l) (o : Obj) {p : Addr} {u : Value} (hc : w.cell? p = some u) : (w'.alloc o).cell? p = some u :=
  ((below_alloc h.below o).cell (World.block_lt_of_cell? w _ hc)).trans hc
theorem keep_app {w w' W w1 : World} {v : Value} {l : List Int} (h : Copied w w' v l) (hg : W.grownBy w1 v.ownBlock) {p : Addr} {u : Value} (hp : w.cell? p = some u) (hc : W.cell? p = some u) : w1.cell? p = some u := by
  have hb := World.block_lt_of_cell? w _ hp
  have hb2 := World.block_lt_of_cell? W _ hc
  rw [hg.cell_far p hb2 fun e => by have := own_base h.row _ e.symm; omega]
  exact hc
/-- what append leaves -/
structure Longer (w w1 : World) (g cap : Nat) (l : List Int) (x : Int) : Prop where
  row : w1.ownsRow w.heap.size 3 1 (.slice (some ⟨g, 0, none⟩) (l.length + 1) cap) (l.length + 1) (encs (Value.int .i64) l ++ [.int .i64 x])
  below : Below w.heap.size w w1
theorem longer_of {w w' W w1 : World} {v : Value} {l : List Int} {g cap : Nat} {x : Int} (h : Copied w w' v l) (hW : Below w'.heap.size w' W) (hg : W.grownBy w1 v.ownBlock) (ho : w1.ownsRow w.heap.size 3 1 (.slice (some ⟨g, 0, none⟩) (l.length + 1) cap) (l.length + 1) (encs (Value.int .i64) l ++ [.int .i64 x])) : Longer w w1 g cap l x :=
  ⟨ho, (below_step h.below hW).grown hg (below_size (below_step h.below hW)) (own_base h.row)⟩
theorem Longer.reads {w w1 : World} {g cap : Nat} {l : List Int} {x : Int} (h : Longer w w1 g cap l x) : (Kd.int .i64).C w1 (some ⟨g, 0, none⟩) (l ++ [x]).length (l ++ [x]) ∧ (l ++ [x]).length ≤ cap := by
  have h1 : w1.ownsRow w.heap.size 3 1 (.slice (some ⟨g, 0, none⟩) (l ++ [x]).length cap) (l ++ [x]).length ((l ++ [x]).map (Value.int .i64)) := by
    have := h.row
    unfold encs at this
    rw [List.length_append, List.map_append]
    exact this
  exact own_reads1 (h1 := fun _ => rfl) h1
set_option maxRecDepth 200000 in
set_option maxHeartbeats 4000000 in
theorem tried_walk (l0 : List S45) (hl : l0.length ≤ 2147483647) (cs : List S70) (hcs : refB l0 = some cs) (hn : cs.length ≤ 6) : ∀ (d : Nat) (w : World) (A : Option Addr) (c : Nat) (Ac : Option Addr) (cc : Nat) (Ah : Option Addr) (ch : Nat) (head : List Int), head.length + d = cs.length →
    Kd.C k45 w A l0.length l0 → l0.length ≤ c → Kd.C k70 w Ac cs.length cs → cs.length ≤ cc → (Kd.int .i64).C w Ah head.length head → head.length ≤ ch →
    Calls Try.prog 13 #[.slice A l0.length c, .slice Ac cs.length cc, .slice Ah head.length ch] w fun e w' => IntsOut w w' e (tryB cs d head) := by
  intro d
  induction d with
  | zero =>
    intro w A c Ac cc Ah ch head hd hr hc hC hcc hh hch
    have HP := Lib.hid (played_walk w A c l0 hr hc hl Ah ch head hh hch cs hcs)
    have HH := Lib.hid (And.intro hh hch)
    clear hr hc hC hcc hh hch hcs
    have heD : ((head.length : Int) == (cs.length : Int)) = true := beq_iff_eq.2 (by omega)
    go_enter Try.func13, Try.ntmps13
    go_wp2_with fail
    refine HP.out.mono ?_
    rintro e w1 ⟨hb, b, rfl, hbp⟩
    have HB := Lib.hid hb
    have HBP := Lib.hid hbp
    clear hb hbp
    cases b with
    | true =>
      have HE : Hid (tryB cs 0 head = head) := Lib.hid (by unfold tryB; exact if_pos (HBP.out.1 rfl))
      go_wp2_with fail
      go_ret
      exact ⟨HB.out, Ah, ch, by rw [HE.out]; rfl, by rw [HE.out]; exact HH.out.2, by rw [HE.out]; exact Kd.C_below HH.out.1 HB.out⟩
    | false =>
      have HE : Hid (tryB cs 0 head = []) := Lib.hid (by unfold tryB; exact if_neg fun q => by have := HBP.out.2 q; cases this)
      go_wp2_with fail
      go_ret
      exact ⟨HB.out, none, 0, by rw [HE.out]; rfl, by rw [HE.out]; exact Nat.le_refl _, by rw [HE.out]; exact ints_nil _⟩
  | succ d ih =>
    intro w A c Ac cc Ah ch head hd hr hc hC hcc hh hch
    have HIH := Lib.hid ih
    have HR := Lib.hid (And.intro hr (And.intro hc (And.intro hC (And.intro hcc (And.intro hh hch)))))
    clear ih hr hc hC hcc hh hch hcs
    have heD : ((head.length : Int) == (cs.length : Int)) = false := beq_eq_false_iff_ne.mpr (by omega)
    have hu70 := Try.underlying70
    go_enter Try.func13, Try.ntmps13
    go_wp2_with fail
    go_loopw [8] (fun s8 wr => ∃ i : Nat, i ≤ cs.length ∧ s8 = .int .i64 i ∧ Below w.heap.size w wr ∧ tryL cs (tryB cs d) head (cs.length - i) i = tryB cs (d + 1) head) (fun s8 _ => cs.length - (intOf s8).toNat)
    case atStart => exact ⟨0, Nat.zero_le _, rfl, Below.refl _ _, rfl⟩
    case round =>
      obtain ⟨i, hi, rfl, hB, hT⟩ := hrel
      have HB := Lib.hid hB
      have HT := Lib.hid hT
      clear hB hT
      by_cases hlt : i < cs.length
      · have hlD : decide ((i : Int) < (cs.length : Int)) = true := by simp; omega
        have HT2 : Hid ((if (rd_T70 cs (i : Nat)).f0 ∈ head then tryL cs (tryB cs d) head (cs.length - (i + 1)) (i + 1) else if (tryB cs d (head ++ [(rd_T70 cs (i : Nat)).f0])).length = 0 then tryL cs (tryB cs d) head (cs.length - (i + 1)) (i + 1) else tryB cs d (head ++ [(rd_T70 cs (i : Nat)).f0])) = tryB cs (d + 1) head) := Lib.hid (by
          rw [← HT.out, show cs.length - i = (cs.length - (i + 1)) + 1 by omega]
          rfl)
        obtain ⟨x, hx⟩ : ∃ x, x = (rd_T70 cs (i : Nat)).f0 := ⟨_, rfl⟩
        have HX := Lib.hid hx
        clear hx
        obtain ⟨wP, hwP⟩ : ∃ wP, wP = wr := ⟨_, rfl⟩
        subst hwP
        go_wp2_with fail
        go_loopw [9, 10] (fun s9 s10 wr => ∃ (k : Nat) (b : Bool), k ≤ head.length ∧ s9 = .bool b ∧ s10 = .int .i64 k ∧ (b = true ↔ x ∈ head.take k) ∧ Below wP.heap.size wP wr) (fun _ s10 _ => head.length - (intOf s10).toNat)
        case atStart => exact ⟨0, false, Nat.zero_le _, rfl, rfl, by simp, Below.refl _ _⟩
        case round =>
          obtain ⟨k, b, hk, rfl, rfl, hbk, hB2⟩ := hrel
          have HB2 := Lib.hid hB2
          have HBK := Lib.hid hbk
          have HBW := Lib.hid (below_step HB.out hB2)
          clear hB2 hbk
          obtain ⟨ac, E7, e7, E8, e8, hA3, q0, q1, q2, q3, q4, q5, q6, q7, q8, _, _, _, _⟩ := at_T70 (w := wr) (Kd.C_below HR.out.2.2.1 HBW.out) i (by omega) (by omega)
          subst hA3
          have hrd2 : (rd_T70 cs (i : Nat)).f0 = x := HX.out.symm
          rw [hrd2] at q0
          simp only [Int.toNat_natCast] at q0
          clear q1 q2 q3 q4 q5 q6 q7 q8 hrd2
          by_cases hkl : k < head.length
          · have hkD : decide ((k : Int) < (head.length : Int)) = true := by simp; omega
            obtain ⟨ah, hAh, y0⟩ := Kd.at_int (w := wr) (Kd.C_below HR.out.2.2.2.2.1 HBW.out) k (by omega) (by omega)
            subst hAh
            obtain ⟨y, hy⟩ : ∃ y, y = rd head (k : Int) := ⟨_, rfl⟩
            rw [← hy] at y0
            have HY := Lib.hid hy
            clear hy
            simp only [Int.toNat_natCast] at y0
            have HM : Hid (x ∈ head.take (k + 1) ↔ x ∈ head.take k ∨ y = x) := Lib.hid (by
              rw [List.take_add_one, List.getElem?_eq_getElem hkl, List.mem_append]
              have : y = head[k] := by
                rw [HY.out]
                unfold rd
                rw [Int.toNat_natCast, List.getD_eq_getElem?_getD, List.getElem?_eq_getElem hkl]
                rfl
              rw [this]
              simp [eq_comm])
            cases b with
            | true =>
              go_wp2_with fail
              go_quiet (fail)
              go_wp2_with fail
              go_roundw
              case rel => exact ⟨k + 1, true, by omega, rfl, by go_num, ⟨fun _ => HM.out.2 (.inl (HBK.out.1 (by first | trivial | rfl))), fun _ => rfl⟩, pw_below_drewN HB2.out _⟩
              case measure => simp [intOf]; omega
            | false =>
              by_cases hq : y = x
              · have hqD : (y == x) = true := beq_iff_eq.2 hq
                go_wp2_with fail
                go_quiet (fail)
                go_wp2_with fail
                go_roundw
                case rel => exact ⟨k + 1, true, by omega, rfl, by go_num, ⟨fun _ => HM.out.2 (.inr hq), fun _ => rfl⟩, pw_below_drewN HB2.out _⟩
                case measure => simp [intOf]; omega
              · have hqD : (y == x) = false := beq_eq_false_iff_ne.mpr hq
                go_wp2_with fail
                go_quiet (fail)
                go_wp2_with fail
                go_roundw
                case rel => exact ⟨k + 1, false, by omega, rfl, by go_num, ⟨(fun q => by cases q), fun q => by
                  rcases HM.out.1 q with r | r
                  · exact HBK.out.2 r
                  · exact absurd r hq⟩, pw_below_drewN HB2.out _⟩
                case measure => simp [intOf]; omega
          · obtain rfl : k = head.length := by omega
            have HBK2 : Hid (b = true ↔ x ∈ head) := Lib.hid (by have := HBK.out; rwa [List.take_length] at this)
            have hil : i ≤ 2147483647 := by omega
            cases b with
            | true =>
              go_wp2_with fail
              go_roundw
              case rel => exact ⟨i + 1, by omega, by go_num, HBW.out, by rw [← HT2.out, if_pos (by rw [← HX.out]; exact HBK2.out.1 (by first | trivial | rfl))]⟩
              case measure => simp [intOf]; omega
            | false =>
              have HNM : Hid ((if (tryB cs d (head ++ [x])).length = 0 then tryL cs (tryB cs d) head (cs.length - (i + 1)) (i + 1) else tryB cs d (head ++ [x])) = tryB cs (d + 1) head) := Lib.hid (by
                have h1 := HT2.out
                rw [← HX.out, if_neg (fun q => by have := HBK2.out.2 q; cases this)] at h1
                exact h1)
              have HCW := Lib.hid (Kd.C_below HR.out.2.2.2.2.1 HBW.out)
              have hh6 : head.length ≤ 1099511627777 := by omega
              obtain ⟨i0, hi0, hz0, hz1, hz2⟩ := info_parts info3
              have hm63 : head.length + 1 ≤ maxLen := by unfold maxLen; omega
              have hm47 : (head.length + 1) * 8 ≤ 140737488355328 := by omega
              have ho1 : ∀ u ∈ [Value.int .i64 x], u.oneCell' = true := by simp [Value.oneCell']
              go_wp2_with fail
              go_region_held3 (fun w' => w'.cell? (ac.add (i * 9)) = some (.int .i64 x))
                (first | go_keep | exact HK.out.1.cell q0 | exact HK.out.1.cellA _ q0 | exact keep_app HK.out.1 hgrow q0 (HK.out.1.cellA _ q0) | exact keep_app HK.out.1 hgrow q0 (HK.out.1.cell q0))
                (first
                  | (go_at_call 34; refine (copyInts_own wr _ Ah ch head HCW.out HR.out.2.2.2.2.2 hh6 ?_).mono ?_; (repeat (first | exact Below.refl _ _ | apply below_drew1 | refine below_alloc ?_ _)); rintro e wK ⟨vK, rfl, hcK, hbK⟩; have HK := Lib.hid (And.intro hcK hbK); clear hcK hbK)
                  | (refine step_append_lies _ (by rfl) _ _ _ (by rfl) wr.heap.size 3 i0 _ 1 8 Try.underlying25 hi0 hz0 hz1 hz2 rfl (by omega) vK head.length (encs (Value.int .i64) head) (by rfl) (HK.out.1.row.alloc _) ⟨wK.heap.size, 0, none⟩ 1 1 [.int .i64 x] (by rfl) (by rfl) (World.news_of_block (cs := #[.int .i64 x]) (t := 3) (fr := (0, 0)) (heap_alloc_new wK _)) ho1 (by omega) hm63 hm47 (below_size (below_alloc HK.out.1.below _)) _ rfl ?_; intro gN cap w1 hown1 hgrow hat hlt)
                  | (refine step_append_lies _ (by rfl) _ _ _ (by rfl) wr.heap.size 3 i0 _ 1 8 Try.underlying25 hi0 hz0 hz1 hz2 rfl (by omega) vK head.length (encs (Value.int .i64) head) (by rfl) HK.out.1.row ⟨wr.heap.size, 0, none⟩ 1 1 [.int .i64 x] (by rfl) (by rfl) (World.news_of_block (cs := #[.int .i64 x]) (t := 3) (fr := (0, 0)) ((HK.out.2.block wr.heap.size (lt_alloc wr _)).trans (heap_alloc_new wr _))) ho1 (by omega) hm63 hm47 (below_size HK.out.1.below) _ rfl ?_; intro gN cap w1 hown1 hgrow hat hlt))
              all_goals (
                have HLO : Hid (Longer wr w1 gN cap head x) := Lib.hid (by first | exact longer_of HK.out.1 (below_alloc (Below.refl _ _) _) hgrow hown1 | exact longer_of HK.out.1 (Below.refl _ _) hgrow hown1)
                clear hgrow hown1 hat hlt HK q0
                have HB1 := Lib.hid (below_step HBW.out HLO.out.below)
                have HGO : Hid (Calls Try.prog 13 #[.slice A l0.length c, .slice (some ac) cs.length cc, .slice (some ⟨gN, 0, none⟩) (head.length + 1) cap] w1 fun e w' => IntsOut w1 w' e (tryB cs d (head ++ [x]))) := Lib.hid (by
                  have := HIH.out w1 A c (some ac) cc (some ⟨gN, 0, none⟩) cap (head ++ [x]) (by rw [List.length_append, List.length_singleton]; omega) (Kd.C_below HR.out.1 HB1.out) HR.out.2.1 (Kd.C_below HR.out.2.2.1 HB1.out) HR.out.2.2.2.1 HLO.out.reads.1 HLO.out.reads.2
                  rw [List.length_append, List.length_singleton] at this
                  exact this)
                clear hd
                go_wp2_with fail
                refine HGO.out.mono ?_
                rintro e w2 ⟨hb2, Az, cz, rfl, hcz, hCz⟩
                have H2 := Lib.hid (And.intro (below_step HB1.out hb2) (And.intro hcz hCz))
                clear hb2 hcz hCz
                by_cases hz : (tryB cs d (head ++ [x])).length = 0
                · have HN2 := Lib.hid HNM.out
                  have hzD : decide (0 < (tryB cs d (head ++ [x])).length) = false := decide_eq_false (by omega)
                  have HZ := Lib.hid hz
                  clear hz
                  go_wp2_with fail
                  go_roundw
                  case rel => exact ⟨i + 1, by omega, by go_num, H2.out.1, by rw [← HNM.out, if_pos HZ.out]⟩
                  case measure => simp [intOf]; omega
                · have hzD : decide (0 < (tryB cs d (head ++ [x])).length) = true := decide_eq_true (by omega)
                  have HE : Hid (tryB cs (d + 1) head = tryB cs d (head ++ [x])) := Lib.hid (by rw [← HNM.out, if_neg hz])
                  clear hz
                  go_wp2_with fail
                  go_ret
                  exact ⟨H2.out.1, Az, cz, by rw [HE.out]; rfl, by rw [HE.out]; exact H2.out.2.1, by rw [HE.out]; exact H2.out.2.2⟩)
      · obtain rfl : i = cs.length := by omega
        have HE : Hid (tryB cs (d + 1) head = []) := Lib.hid (by rw [← HT.out, Nat.sub_self]; rfl)
        go_wp2_with fail
        go_ret
        exact ⟨HB.out, none, 0, by rw [HE.out]; rfl, by rw [HE.out]; exact Nat.le_refl _, by rw [HE.out]; exact ints_nil _⟩
/-- what Order answers, in words of what is told -/
theorem order_told {w : World} {base : Nat} {v : Value} {b : Bool} {x : Int} {l0 : List S45} (hs : ShortH l0) (h : OrdIs w base v b x (ordP l0)) :
    (refB l0 = none ∧ v = .slice none 0 0 ∧ b = false ∧ x = 230) ∨ ∃ cs, refB l0 = some cs ∧ CsOk cs ∧ x = 0 ∧
      ((toldB cs = none ∧ v = .slice none 0 0 ∧ b = false) ∨ ∃ os, toldB cs = some os ∧ b = true ∧ w.ownsRow base 3 1 v os.length (i64s os)) := by
  rw [ordP_told] at h
  rw [← read_eq hs]
  cases q : readB l0 with
  | none =>
    rw [q] at h
    exact .inl ⟨rfl, h⟩
  | some cs =>
    rw [q] at h
    refine .inr ⟨cs, rfl, read_csok hs q, ?_⟩
    simp only [Option.map_some] at h
    cases t : toldB cs with
    | none => rw [t] at h; exact ⟨h.2.2, .inl ⟨rfl, h.1, h.2.1⟩⟩
    | some os => rw [t] at h; exact ⟨h.2.2, .inr ⟨os, rfl, h.2.1, h.1⟩⟩
set_option maxRecDepth 200000 in
set_option maxHeartbeats 4000000 in
theorem least_walk (w : World) (A : Option Addr) (c : Nat) (l0 : List S45) (hr : Kd.C k45 w A l0.length l0) (hc : l0.length ≤ c) (hbig : ∀ j, j < l0.length → (rd_T45 l0 (j : Nat)).f3.f2.length ≤ 70368744177664 ∧ (rd_T45 l0 (j : Nat)).f3.f3.length ≤ 70368744177664) :
    Calls Try.prog 3 #[.slice A l0.length c] w fun e w' => e = .returned (.bool true) ∧ Below w.heap.size w w' := by
  have HR := Lib.hid (And.intro hr hc)
  have HBG := Lib.hid hbig
  clear hr hc hbig
  go_enter Try.func3, Try.ntmps3
  go_wp2_with fail
  refine (long_walk w A c l0 HR.out.1 HR.out.2 HBG.out).mono ?_
  rintro e w1 ⟨b, rfl, hb1, hlb⟩
  cases b with
  | true =>
    go_wp2_with fail
    go_ret
    exact ⟨rfl, hb1⟩
  | false =>
    have HB1 := Lib.hid hb1
    have HL : Hid (ShortH l0) := Lib.hid (hlb rfl)
    clear hb1 hlb
    go_wp2_with fail
    refine (lives_walk w1).mono ?_
    rintro e w2 ⟨rfl, hb2⟩
    have HB2 := Lib.hid (below_step HB1.out hb2)
    clear hb2
    go_wp2_with fail
    refine (fugueref00_CopyHistory.calls (2147483649 + l0.length) A c l0 l0 w2 (Kd.C_below HR.out.1 HB2.out) HR.out.2 (copyHist_some l0 HL.out.1 HL.out.2)).mono ?_
    rintro e w3 ⟨v3, rfl, hs3, hb3⟩
    have HB3 := Lib.hid (below_step HB2.out hb3)
    obtain ⟨A3, c3, rfl, hl3, hC3⟩ := Kd.S_reads hs3
    have HS3 := Lib.hid (And.intro hl3 hC3)
    clear hb3 hs3 hl3 hC3
    go_wp2_with fail
    refine (order_walk w3 A3 c3 l0 HS3.out.2 HS3.out.1 HL.out.1).mono ?_
    rintro e w4 ⟨v, b, x, rfl, hb4, ho⟩
    have HB4 := Lib.hid (below_step HB3.out hb4)
    have HO := Lib.hid (order_told HL.out ho)
    clear hb4 ho
    go_wp2_with fail
    refine (calls_walk w4 A c l0 (Kd.C_below HR.out.1 HB4.out) HR.out.2 HL.out.1).mono ?_
    rintro e w5 ⟨hb5, vc, bc, rfl, hce⟩
    have HB5 := Lib.hid (below_step HB4.out hb5)
    have HB45 := Lib.hid hb5
    clear hb5
    rcases HO.out with ⟨hn, rfl, rfl, rfl⟩ | ⟨cs, hcs, hok, rfl, ht⟩
    · rw [hn] at hce
      obtain ⟨rfl, Ax, nx, cx, rfl⟩ := hce
      clear hn HO
      go_wp2_with fail
      go_ret
      exact ⟨rfl, HB5.out⟩
    · rw [hcs] at hce
      obtain ⟨hrow, rfl⟩ := hce
      obtain ⟨Ac, cc, rfl, h3⟩ := hrow.slice_
      obtain ⟨Ac', cc', he3, hcc, hC⟩ := (hrow.imp_ (fun _ _ => k70.K_below HB45.out)).reads
      cases he3
      have HW := Lib.hid (And.intro hC (And.intro hcc hcs))
      have HK := Lib.hid hok
      have HT := Lib.hid ht
      clear hrow h3 hcc hC hcs hok ht HO
      by_cases h6 : 6 < cs.length
      · have h6D : decide (6 < (cs.length : Int)) = true := decide_eq_true (by omega)
        go_wp2_with fail
        go_ret
        exact ⟨rfl, HB5.out⟩
      · have h6D : decide (6 < (cs.length : Int)) = false := decide_eq_false (by omega)
        have HGO := Lib.hid (tried_walk l0 HL.out.1 cs HW.out.2.2 (by omega) cs.length w5 A c Ac cc none 0 [] (by simp) (Kd.C_below HR.out.1 HB5.out) HR.out.2 HW.out.1 HW.out.2.1 (ints_nil _) (Nat.le_refl _))
        have HQ := Lib.hid (try_told HK.out)
        rw [List.length_nil] at HGO
        go_wp2_with fail
        refine HGO.out.mono ?_
        rintro e w6 ⟨hb6, Az, cz, rfl, hcz, hCz⟩
        rw [HQ.out] at hcz hCz ⊢
        have HB6 := Lib.hid (below_step HB5.out hb6)
        have HB46 := Lib.hid (below_step HB45.out hb6)
        rcases HT.out with ⟨hn, rfl, rfl⟩ | ⟨os, hos, rfl, hrow⟩
        · rw [hn] at hcz hCz ⊢
          have h0 : cs.length ≠ 0 := told_zero HK.out hn
          have h0D : decide (cs.length = 0) = false := decide_eq_false h0
          have h0E : ((cs.length : Int) == 0) = false := beq_eq_false_iff_ne.mpr (by omega)
          have HZ := Lib.hid (And.intro hcz hCz)
          clear hb6 hcz hCz hn HT HQ
          simp only [Option.getD_none, List.length_nil]
          go_wp2_with fail
          refine (fugueref00_EqInts.calls 1 none 0 [] Az cz [] true w6 (ints_nil _) (Nat.le_refl _) HZ.out.2 HZ.out.1 (by kernel_rfl)).mono ?_
          rintro e w7 ⟨rfl, hd7⟩
          have HB7 := Lib.hid (below_step HB6.out hd7.below)
          clear hd7
          go_wp2_with fail
          go_ret
          exact ⟨rfl, HB7.out⟩
        · rw [hos] at hcz hCz ⊢
          obtain ⟨Ao, co, rfl⟩ := own_slice hrow
          obtain ⟨k3, l3⟩ := own_reads1 (h1 := fun _ => rfl) (xs := os) hrow
          have hlen := told_len HK.out hos
          simp only [Option.getD_some] at hcz hCz ⊢
          have HZ := Lib.hid (And.intro hcz (And.intro hCz (And.intro (Kd.C_below k3 HB46.out) l3)))
          obtain ⟨r, hr1, hr2⟩ := eqints_some os os (by omega)
          obtain rfl : r = true := hr2.2 rfl
          have HE := Lib.hid hr1
          have HLN := Lib.hid hlen
          have h63 : os.length ≤ 6 := by omega
          clear hb6 hcz hCz hos HT HQ hrow k3 l3 hr1 hr2 hlen
          go_wp2_with fail
          refine (fugueref00_EqInts.calls (os.length + 1) Ao co os Az cz os true w6 HZ.out.2.2.1 HZ.out.2.2.2 HZ.out.2.1 HZ.out.1 HE.out).mono ?_
          rintro e w7 ⟨rfl, hd7⟩
          have HB7 := Lib.hid (below_step HB6.out hd7.below)
          clear hd7
          by_cases h0 : cs.length = 0
          · have h0D : ((cs.length : Int) == 0) = true := beq_iff_eq.2 (by omega)
            go_wp2_with fail
            go_ret
            exact ⟨rfl, HB7.out⟩
          · have h0D : ((cs.length : Int) == 0) = false := beq_eq_false_iff_ne.mpr (by omega)
            have h1D : decide (0 < os.length) = true := decide_eq_true (by have := HLN.out; omega)
            go_wp2_with fail
            go_ret
            exact ⟨rfl, HB7.out⟩
end Go.Proofs.Ytfahoomkpammiaa
namespace Go.Proofs.Ytfahoomkpammiaa
open Go.ChangeShapes Go.WideShapes Go.RowKit Go.Deep Go.Proofs.YtfahoomkpammiaaW.PrintWords
section
variable {H : Type} {enc : TypeId × Value → H} {P : Program} {W : World} {sp : Nat → Bool} {held : Bool}
def wOk (P : Program) (t : TypeId) (d : DataW H) : Prop := ∀ n ∈ d.weights P t, n ≤ 140737488351232
def Opens (enc : TypeId × Value → H) (P : Program) (W : World) (sp : Nat → Bool) (held : Bool) (t : TypeId) {α : Type} (K : Kd α) (G : α → Prop) : Prop :=
  ∀ (fuel base : Nat) (cs : List Value) (x : DataW H × List MemPlace), DataW.trod enc P W base sp held fuel t cs = some x → wOk P t x.1 → ∃ a, K.K W a cs ∧ G a
theorem Opens.imp {t : TypeId} {α : Type} {K : Kd α} {G G' : α → Prop} (h : Opens enc P W sp held t K G) (hg : ∀ a, G a → G' a) : Opens enc P W sp held t K G' := fun fuel base cs x hx hw =>
  let ⟨a, h1, h2⟩ := h fuel base cs x hx hw
  ⟨a, h1, hg a h2⟩
theorem opens_int {t : TypeId} {k : IntKind} (ht : P.underlying t = some (.int k)) : Opens enc P W sp held t (Kd.int k) (fun n => (Lit.int k n).wf = true) := by
  intro fuel base cs x h _
  obtain ⟨n, h1, _, h2⟩ := DataW.trod_int ht h
  exact ⟨n, h1, h2⟩
theorem opens_bool {t : TypeId} (ht : P.underlying t = some .bool) : Opens enc P W sp held t Kd.bool (fun _ => True) := by
  intro fuel base cs x h _
  obtain ⟨n, h1, _⟩ := DataW.trod_bool ht h
  exact ⟨n, h1, trivial⟩
theorem opens_string {t : TypeId} (ht : P.underlying t = some .string) : Opens enc P W sp held t Kd.string (fun s => s.size ≤ 140737488351232) := by
  intro fuel base cs x h hw
  obtain ⟨s, h1, h2, _⟩ := DataW.trod_string ht h
  refine ⟨s, h1, ?_⟩
  have := hw s.data.toList.length (by rw [h2]; simp [DataW.weights])
  simpa using this
theorem list_of_ex {α : Type} {p : Nat → α → Prop} : ∀ n : Nat, (∀ i, i < n → ∃ a, p i a) → ∃ l : List α, l.length = n ∧ ∀ i a, l[i]? = some a → p i a := by
  intro n
  induction n with
  | zero => intro _; exact ⟨[], rfl, fun i a h => by simp at h⟩
  | succ n ih =>
    intro h
    obtain ⟨l, h1, h2⟩ := ih fun i hi => h i (by omega)
    obtain ⟨a, ha⟩ := h n (by omega)
    refine ⟨l ++ [a], by simp [h1], fun i b hb => ?_⟩
    rcases Nat.lt_or_ge i l.length with q | q
    · rw [List.getElem?_append_left q] at hb
      exact h2 i b hb
    · rw [List.getElem?_append_right q] at hb
      rcases Nat.eq_zero_or_pos (i - l.length) with z | z
      · rw [z] at hb
        obtain rfl := Option.some.inj hb
        obtain rfl : i = n := by omega
        exact ha
      · rw [List.getElem?_eq_none (by simp; omega)] at hb
        cases hb
theorem weights_all {e : TypeId} {n : Nat} : ∀ {l : List (DataW H)} {d : DataW H}, d ∈ l → n ∈ d.weights P e → n ∈ DataW.weightsAll P e l := by
  intro l
  induction l with
  | nil => intro d h; cases h
  | cons a l ih =>
    intro d h hn
    unfold DataW.weightsAll
    rcases List.mem_cons.1 h with rfl | q
    · exact List.mem_append_left _ hn
    · exact List.mem_append_right _ (ih q hn)
theorem opens_slice {t e : TypeId} {α : Type} {K : Kd α} {G : α → Prop} {B : Nat} (ht : P.underlying t = some (.slice e)) (hc : P.cellsOf e = K.sz) (hB : P.bytesOf e = B) (h : Opens enc P W sp held e K G) :
    Opens enc P W sp held t (Kd.slice e K) (fun l => l.length * B ≤ 140737488351232 ∧ l.length ≤ 9223372036854775807 ∧ ∀ a ∈ l, G a) := by
  intro fuel base cs x hx hw
  rcases open_slice ht hx with ⟨rfl, _⟩ | ⟨a, len, cap, m, n, D, Pl, rfl, _, hl, hm, hmm, rfl, hi⟩
  · exact ⟨[], ⟨none, 0, rfl, Nat.le_refl _, rfl, Nat.zero_le _, fun q => by cases q⟩, by simp, by simp, fun a q => by cases q⟩
  · have hlm : len ≤ m := by rw [hmm]; split <;> omega
    have hD : ∀ i, i < len → wOk P e (D i) := fun i hi n hn => hw n (by
      simp only [DataW.weights, ht]
      exact List.mem_cons_of_mem _ (List.mem_append_left _ (weights_all (List.mem_map.2 ⟨i, List.mem_range.2 hi, rfl⟩) hn)))
    have hlen : len * B ≤ 140737488351232 := by
      have := hw ((((List.range len).map D).length + ((List.range (m - len)).map fun j => D (len + j)).length) * P.bytesOf e) (by
        simp only [DataW.weights, ht]
        exact List.mem_cons_self)
      rw [hB, List.length_map, List.length_range] at this
      exact Nat.le_trans (Nat.mul_le_mul_right _ (Nat.le_add_right _ _)) this
    obtain ⟨l, l1, l2⟩ := list_of_ex (p := fun i (y : α) => (∃ c : List Value, c.length = K.sz ∧ K.K W y c ∧ ∀ j u, c[j]? = some u → W.cell? (a.add (i * K.sz + j)) = some u) ∧ G y) len fun i hin => by
      obtain ⟨cs', c1, c2⟩ := hi i (by omega)
      obtain ⟨y, y1, y2⟩ := h _ _ _ _ c2 (hD i hin)
      obtain ⟨_, c3, c4⟩ := World.cells?_some c1
      rw [hc] at c3 c4
      refine ⟨y, ⟨cs', c3, y1, fun j u hu => ?_⟩, y2⟩
      have hj : j < K.sz := by rw [← c3]; exact (List.getElem?_eq_some_iff.1 hu).1
      have := c4 j hj
      rw [hu, Go.Deep.add_add] at this
      exact this
    subst l1
    unfold maxLen at hm
    refine ⟨l, ⟨some a, cap, rfl, hl, rfl, by omega, fun _ => ⟨a, rfl, fun j p hp => (l2 j p hp).1⟩⟩, hlen, by omega, fun y hy => ?_⟩
    obtain ⟨i, hi2, rfl⟩ := List.getElem_of_mem hy
    exact (l2 i _ (List.getElem?_eq_getElem hi2)).2
def OpensF (enc : TypeId × Value → H) (P : Program) (W : World) (sp : Nat → Bool) (held : Bool) (fs : List Field) (off : Nat) {α : Type} (K : Kd α) (G : α → Prop) : Prop :=
  ∀ (n base : Nat) (cs : List Value) (ys : List (DataW H × List MemPlace)), (∀ (i : Nat) (f : Field), fs[i]? = some f → DataW.trod enc P W base sp held n f.type ((cs.drop f.offset).take (P.cellsOf f.type)) = ys[i]?) →
    ys.length = fs.length → cs.length = off + K.sz → (∀ n ∈ DataW.weightsEach P (fs.map (·.type)) (ys.map (·.1)), n ≤ 140737488351232) → ∃ a, K.K W a (cs.drop off) ∧ G a
theorem opensF_one {f : Field} {off : Nat} {α : Type} {K : Kd α} {G : α → Prop} (ho : f.offset = off) (hc : P.cellsOf f.type = K.sz) (h : Opens enc P W sp held f.type K G) : OpensF enc P W sp held [f] off K G := by
  intro n base cs ys hy hl hcs hw
  match ys, hl with
  | [y], _ =>
    have h0 := hy 0 f rfl
    rw [ho, hc, List.take_of_length_le (by rw [List.length_drop]; omega)] at h0
    exact h _ _ _ _ h0 fun m hm => hw m (by simp [DataW.weightsEach, hm])
theorem opensF_cons {f : Field} {fs : List Field} {off : Nat} {α β : Type} {K0 : Kd α} {G0 : α → Prop} {K1 : Kd β} {G1 : β → Prop} (ho : f.offset = off) (hc : P.cellsOf f.type = K0.sz) (h0 : Opens enc P W sp held f.type K0 G0) (h1 : OpensF enc P W sp held fs (off + K0.sz) K1 G1) :
    OpensF enc P W sp held (f :: fs) off (Kd.pair K0 K1) (fun p => G0 p.1 ∧ G1 p.2) := by
  intro n base cs ys hy hl hcs hw
  match ys, hl with
  | y :: ys, hl =>
    have e0 := hy 0 f rfl
    rw [ho, hc] at e0
    have hcs' : cs.length = off + (K0.sz + K1.sz) := hcs
    obtain ⟨a, a1, a2⟩ := h0 _ _ _ _ e0 fun m hm => hw m (by simp [DataW.weightsEach, hm])
    obtain ⟨b, b1, b2⟩ := h1 n base cs ys (fun i g hg => hy (i + 1) g hg) (by simpa using hl) (by omega) fun m hm => hw m (by
      simp only [List.map_cons, DataW.weightsEach]
      exact List.mem_append_right _ hm)
    refine ⟨(a, b), ⟨_, _, ?_, a1, b1⟩, a2, b2⟩
    rw [← List.drop_drop, List.take_append_drop]
theorem opens_struct {t : TypeId} {fs : Array Field} {α β : Type} {K : Kd α} {G : α → Prop} (f : β → α) (g : α → β) (hfg : ∀ a, f (g a) = a) (ht : P.underlying t = some (.struct fs)) (hc : P.cellsOf t = K.sz) (h : OpensF enc P W sp held fs.toList 0 K G) :
    Opens enc P W sp held t (Kd.iso K f) (fun b => G (f b)) := by
  intro fuel base cs x hx hw
  obtain ⟨ys, n, _, rfl, hl, hyl, hf⟩ := DataW.trod_struct ht hx
  obtain ⟨a, a1, a2⟩ := h n base cs ys (fun i q hq => hf i q (by simpa using hq)) (by simpa using hyl) (by rw [hl, hc, Nat.zero_add]) fun m hm => hw m (by
    simp only [DataW.weights, ht]
    exact hm)
  exact ⟨g a, by show K.K W (f (g a)) cs; rw [hfg]; exact a1, by show G (f (g a)); rw [hfg]; exact a2⟩
/-- a slice that a law takes -/
theorem opens_arg {t e : TypeId} {α : Type} {K : Kd α} {G : List α → Prop} {A : Option Addr} {n c : Nat} {d : DataW H} {p : List MemPlace} (h : Opens enc P W sp held t (Kd.slice e K) G) {base : Nat} (ht : DataW.Trod enc P W base sp held t (.slice A n c) d p) (hw : wOk P t d) :
    ∃ l : List α, n = l.length ∧ l.length ≤ c ∧ Kd.C K W A l.length l ∧ G l := by
  obtain ⟨fuel, hf⟩ := ht
  obtain ⟨l, ⟨A', c', h1, h2, h3⟩, h4⟩ := h _ _ _ _ hf hw
  have h1' : [Value.slice A n c] = [Value.slice A' l.length c'] := h1
  injection h1' with h1' _
  injection h1' with e1 e2 e3
  subst e1; subst e3
  exact ⟨l, e2, h2, h3, h4⟩
theorem wOk_of {ts : List TypeId} {ds : List (DataW H)} (hsz : (DataW.weightsEach P ts ds).all (· ≤ reachBytes) = true) {j : Nat} {t : TypeId} {d : DataW H} (ht : ts[j]? = some t) (hd : ds[j]? = some d) : wOk P t d := by
  intro n hn
  have := List.all_eq_true.1 hsz _ (DataW.weights_mem_each ht hd n hn)
  simp [reachBytes] at this
  exact of_decide_eq_true this
end
end Go.Proofs.Ytfahoomkpammiaa
namespace Go.Proofs.Ytfahoomkpammiaa
open Go.ChangeShapes Go.WideShapes Go.RowKit Go.Deep Go.Proofs.YtfahoomkpammiaaW.PrintWords Go.Proofs.YtfahoomkpammiaaW.PrintLast Go.Proofs.YtfahoomkpammiaaW.PrintMore Go.Proofs.Ytfahoomkpammiaa.PHistOrders
section
variable {H : Type} {enc : TypeId × Value → H} {W : World} {sp : Nat → Bool} {held : Bool}
theorem cInt : Try.prog.cellsOf 3 = 1 := by kernel_rfl
theorem cBool : Try.prog.cellsOf 4 = 1 := by kernel_rfl
theorem cString : Try.prog.cellsOf 9 = 1 := by kernel_rfl
theorem cInts : Try.prog.cellsOf 25 = 1 := by kernel_rfl
theorem cStrings : Try.prog.cellsOf 41 = 1 := by kernel_rfl
theorem cOp : Try.prog.cellsOf 40 = 3 := by kernel_rfl
theorem cReply : Try.prog.cellsOf 43 = 4 := by kernel_rfl
theorem cMoment : Try.prog.cellsOf 45 = 9 := by kernel_rfl
theorem bInt : Try.prog.bytesOf 3 = 8 := by kernel_rfl
theorem bString : Try.prog.bytesOf 9 = 16 := by kernel_rfl
theorem bMoment : Try.prog.bytesOf 45 = 120 := by kernel_rfl
def gInt (n : Int) : Prop := (Lit.int .i64 n).wf = true
def gStr (s : ByteArray) : Prop := s.size ≤ 140737488351232
structure gInts (l : List Int) : Prop where
  len : l.length * 8 ≤ 140737488351232
  each : ∀ a ∈ l, gInt a
structure gStrs (l : List ByteArray) : Prop where
  len : l.length * 16 ≤ 140737488351232
  each : ∀ a ∈ l, gStr a
structure gOp (o : S40) : Prop where
  kind : gInt o.f0
  key : gInt o.f1
  val : gStr o.f2
structure gReply (r : S43) : Prop where
  val : gStr r.f1
  keys : gInts r.f2
  vals : gStrs r.f3
structure gMoment (m : S45) : Prop where
  client : gInt m.f0
  op : gOp m.f2
  reply : gReply m.f3
structure gMoments (l : List S45) : Prop where
  len : l.length * 120 ≤ 140737488351232
  each : ∀ m ∈ l, gMoment m
theorem oInt : Opens enc Try.prog W sp held 3 (Kd.int .i64) gInt := opens_int Try.underlying3
theorem oBool : Opens enc Try.prog W sp held 4 Kd.bool (fun _ => True) := opens_bool Try.underlying4
theorem oString : Opens enc Try.prog W sp held 9 Kd.string gStr := opens_string Try.underlying9
theorem oInts : Opens enc Try.prog W sp held 25 (Kd.slice 3 (Kd.int .i64)) gInts := (opens_slice Try.underlying25 cInt bInt oInt).imp fun _ h => ⟨h.1, h.2.2⟩
theorem oStrings : Opens enc Try.prog W sp held 41 (Kd.slice 9 Kd.string) gStrs := (opens_slice Try.underlying41 cString bString oString).imp fun _ h => ⟨h.1, h.2.2⟩
theorem oOp : Opens enc Try.prog W sp held 40 k40 gOp :=
  (opens_struct (fun x : S40 => (x.f0, x.f1, x.f2)) (fun a => ⟨a.1, a.2.1, a.2.2⟩) (fun _ => rfl) Try.underlying40 cOp (opensF_cons rfl cInt oInt (opensF_cons rfl cInt oInt (opensF_one rfl cString oString)))).imp fun _ h => ⟨h.1, h.2.1, h.2.2⟩
theorem oReply : Opens enc Try.prog W sp held 43 k43 gReply :=
  (opens_struct (fun x : S43 => (x.f0, x.f1, x.f2, x.f3)) (fun a => ⟨a.1, a.2.1, a.2.2.1, a.2.2.2⟩) (fun _ => rfl) Try.underlying43 cReply (opensF_cons rfl cBool oBool (opensF_cons rfl cString oString (opensF_cons rfl cInts oInts (opensF_one rfl cStrings oStrings))))).imp fun _ h => ⟨h.2.1, h.2.2.1, h.2.2.2⟩
theorem oMoment : Opens enc Try.prog W sp held 45 k45 gMoment :=
  (opens_struct (fun x : S45 => (x.f0, x.f1, x.f2, x.f3)) (fun a => ⟨a.1, a.2.1, a.2.2.1, a.2.2.2⟩) (fun _ => rfl) Try.underlying45 cMoment (opensF_cons rfl cInt oInt (opensF_cons rfl cBool oBool (opensF_cons rfl cOp oOp (opensF_one rfl cReply oReply))))).imp fun _ h => ⟨h.1, h.2.2.1, h.2.2.2⟩
theorem oMoments : Opens enc Try.prog W sp held 22 (Kd.slice 45 k45) gMoments := (opens_slice Try.underlying22 cMoment bMoment oMoment).imp fun _ h => ⟨h.1, h.2.2⟩
/-- a history that a law takes -/
theorem history_open {A : Option Addr} {n c : Nat} {d : DataW H} {p : List MemPlace} {base : Nat} (ht : DataW.Trod enc Try.prog W base sp held 22 (.slice A n c) d p) (hw : wOk Try.prog 22 d) :
    ∃ l : List S45, n = l.length ∧ l.length ≤ c ∧ Kd.C k45 W A l.length l ∧ gMoments l := opens_arg oMoments ht hw
end
end Go.Proofs.Ytfahoomkpammiaa
namespace Go.Proofs.Ytfahoomkpammiaa
open Go.ChangeShapes Go.WideShapes Go.ChangeAt Go.RowKit Go.Deep
theorem own : ownKnob Try.prog.godebug = none := by kernel_rfl
theorem laidOut : laidOutB Try.prog = true := by kernel_rfl
section
variable {H : Type} {enc : TypeId × Value → H} {P : Program} {w : World} {base : Nat} {spare : Nat → Bool} {held : Bool}
end
end Go.Proofs.Ytfahoomkpammiaa
