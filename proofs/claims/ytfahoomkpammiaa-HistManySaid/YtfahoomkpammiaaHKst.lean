/- A step towards the laws on histories: what the loops of Order keep. No conditions of its own beyond those that its theorems name. -/
import Derived.Test.YtfahoomkpammiaaHRound
namespace Go.Proofs.Ytfahoomkpammiaa
open Go.RowKit Go.MapKept Go.Shelf Go.Proofs.YtfahoomkpammiaaW.PrintWords Go.Proofs.YtfahoomkpammiaaW.PrintLast Go.Proofs.YtfahoomkpammiaaW.PrintMore Go.Proofs.Ytfahoomkpammiaa.PHistOrders

abbrev KS := List Int × List (List Int)
/-- the call k stands ahead of the call i -/
def kput (i : Nat) (st : KS) (k : Nat) : KS := (st.1.set i (wrap64 (st.1.getD i 0 + 1)), st.2.set k (st.2.getD k [] ++ [(i : Int)]))
def kputs (i : Nat) {n : Nat} (st : KS) (l : List (Nth n)) : KS := l.foldl (fun s k => kput i s k.1) st
/-- behind i rounds of the first loop -/
def pst (cs : List S70) (mk : Mk) : Nat → KS
  | 0 => (List.replicate cs.length 0, List.replicate cs.length [])
  | i + 1 => kputs i (pst cs mk i) (aheadTo cs mk cs.length i cs.length (Nat.le_refl _))
theorem kputs_snoc (i : Nat) {n : Nat} (st : KS) (l : List (Nth n)) (k : Nth n) : kputs i st (l ++ [k]) = kput i (kputs i st l) k.1 := by unfold kputs; rw [List.foldl_append]; rfl
theorem kputs_len (i : Nat) {n : Nat} (st : KS) : ∀ (l : List (Nth n)), (kputs i st l).1.length = st.1.length ∧ (kputs i st l).2.length = st.2.length := by
  intro l
  unfold kputs
  induction l generalizing st with
  | nil => exact ⟨rfl, rfl⟩
  | cons k l ih =>
    rw [List.foldl_cons]
    have := ih (kput i st k.1)
    simpa [kput] using this
theorem pst_len (cs : List S70) (mk : Mk) : ∀ i, (pst cs mk i).1.length = cs.length ∧ (pst cs mk i).2.length = cs.length := by
  intro i
  induction i with
  | zero => exact ⟨by simp [pst], by simp [pst]⟩
  | succ i ih =>
    have := kputs_len i (pst cs mk i) (aheadTo cs mk cs.length i cs.length (Nat.le_refl _))
    exact ⟨this.1.trans ih.1, this.2.trans ih.2⟩

theorem kputs_bound (i : Nat) {n : Nat} (st : KS) (l : List (Nth n)) (k : Nat) : ((kputs i st l).2.getD k []).length ≤ (st.2.getD k []).length + l.length := by
  unfold kputs
  induction l generalizing st with
  | nil => simp
  | cons a l ih =>
    rw [List.foldl_cons]
    have h1 := ih (kput i st a.1)
    have h2 : ((kput i st a.1).2.getD k []).length ≤ (st.2.getD k []).length + 1 := by
      unfold kput
      simp only [List.getD_eq_getElem?_getD, List.getElem?_set]
      split
      · rename_i e
        subst e
        split
        · simp
        · simp
      · omega
    rw [List.length_cons]
    omega
theorem pst_bound (cs : List S70) (mk : Mk) (i k : Nat) : ((pst cs mk i).2.getD k []).length ≤ i * cs.length := by
  induction i with
  | zero => simp only [pst, List.getD_eq_getElem?_getD, List.getElem?_replicate]; split <;> simp
  | succ i ih =>
    have h1 := kputs_bound i (pst cs mk i) (aheadTo cs mk cs.length i cs.length (Nat.le_refl _)) k
    have h2 := aheadTo_len cs mk cs.length i cs.length (Nat.le_refl _)
    have h3 : (pst cs mk (i + 1)).2 = (kputs i (pst cs mk i) (aheadTo cs mk cs.length i cs.length (Nat.le_refl _))).2 := rfl
    rw [h3, Nat.succ_mul]
    omega

/-- what is called when Order ends: nothing; the blocks are shut -/
def Marks (W : World) (N : Nat) (ds : List Deferred) : Prop := ∃ Ds : List Nat, ds = Ds.map (fun D => { target := .collected D, args := #[] }) ∧ Ds.Nodup ∧ ∀ D ∈ Ds, N + 4 ≤ D ∧ W.heap[D]? = some (.deferred (some []))
theorem Marks.nil (W : World) (N : Nat) : Marks W N [] := ⟨[], rfl, List.nodup_nil, fun D h => by cases h⟩
theorem Marks.keep {W W1 : World} {N : Nat} {ds : List Deferred} (h : Marks W N ds) (hk : ∀ b, b < W.heap.size → (∃ o : Obj, W.heap[b]? = some o ∧ o.isCells = false) → W1.heap[b]? = W.heap[b]?) : Marks W1 N ds := by
  obtain ⟨Ds, h1, h2, h3⟩ := h
  exact ⟨Ds, h1, h2, fun D hD => ⟨(h3 D hD).1, (hk D (blk_lt (h3 D hD).2) ⟨_, (h3 D hD).2, rfl⟩).trans (h3 D hD).2⟩⟩
theorem Marks.lt {W : World} {N D : Nat} {ds : List Deferred} (h : Marks W N ds) (hD : { target := .collected D, args := #[] } ∈ ds) : D < W.heap.size := by
  obtain ⟨Ds, rfl, _, h3⟩ := h
  obtain ⟨D', q, e⟩ := List.mem_map.1 hD
  injection e with e _
  injection e with e
  subst e
  exact blk_lt (h3 _ q).2
theorem Marks.cons {W W1 : World} {N D : Nat} {ds : List Deferred} (h : Marks W N ds) (hk : Marks W1 N ds) (hD : W.heap.size ≤ D) (hN : N + 4 ≤ D) (h1 : W1.heap[D]? = some (.deferred (some []))) : Marks W1 N ({ target := .collected D, args := #[] } :: ds) := by
  obtain ⟨Ds, e, h2, h3⟩ := hk
  obtain ⟨Ds', e', h2', h3'⟩ := h
  have : Ds' = Ds := by
    rw [e] at e'
    have hinj : ∀ (l l' : List Nat), l.map (fun D => ({ target := .collected D, args := #[] } : Deferred)) = l'.map (fun D => { target := .collected D, args := #[] }) → l = l' := by
      intro l
      induction l with
      | nil => intro l' q; cases l' with
        | nil => rfl
        | cons a l' => cases q
      | cons a l ih => intro l' q; cases l' with
        | nil => cases q
        | cons b l' =>
          simp only [List.map_cons, List.cons.injEq] at q
          obtain ⟨q1, q2⟩ := q
          injection q1 with q1 _
          injection q1 with q1
          rw [q1, ih l' q2]
    exact (hinj _ _ e').symm
  subst this
  refine ⟨D :: Ds', by rw [e]; rfl, List.nodup_cons.2 ⟨fun q => ?_, h2⟩, fun D' hD' => ?_⟩
  · have := blk_lt (h3' D q).2
    omega
  · rcases List.mem_cons.1 hD' with rfl | q
    · exact ⟨hN, h1⟩
    · exact h3 D' q

/-- ahead of the i-th round of the first loop -/
structure L1 (N : Nat) (w2 W : World) (cs : List S70) (mk : Mk) (i : Nat) (ds : List Deferred) : Prop where
  mem : KMem W N (pst cs mk i).1 (pst cs mk i).2 (fun b => N + 4 ≤ b)
  below : Below N w2 W
  marks : Marks W N ds

/-- between two rounds over behind, in the i-th round; x: where i is boxed -/
def I1 (N : Nat) (w2 : World) (cs : List S70) (mk : Mk) (i x : Nat) (ds : List Deferred) (pre : List (Nth cs.length)) (W : World) : Prop :=
  KMem W N (kputs i (pst cs mk i) pre).1 (kputs i (pst cs mk i) pre).2 (fun b => N + 4 ≤ b ∧ (b < x ∨ x + 4 ≤ b)) ∧ W.heap[x]? = some (.cells #[.int .i64 (i : Int)] 3 (0, 0)) ∧ Below N w2 W ∧ Marks W N ds ∧ x + 4 ≤ W.heap.size
theorem I1_own (N : Nat) (w2 : World) (cs : List S70) (mk : Mk) (i x : Nat) (ds : List Deferred) (w3 : World) (hN : N ≤ w3.heap.size) (hN2 : N ≤ w2.heap.size) (hm : ∀ D, { target := .collected D, args := #[] } ∈ ds → D < w3.heap.size) : OwnFrom w3.heap.size (I1 N w2 cs mk i x ds) := by
  rintro s W W' row ⟨h1, h2, h3, h4, h5⟩ hg hr
  have hcell : ∀ b, b < W.heap.size → (∃ o : Obj, W.heap[b]? = some o ∧ o.isCells = true) → W'.heap[b]? = W.heap[b]? := fun b hb ⟨o, ho, hc⟩ => hg.block b hb (fun e => by
    obtain ⟨_, o', ho', hc'⟩ := hr b e.symm
    rw [ho] at ho'
    cases ho'
    rw [hc] at hc'
    cases hc')
  refine ⟨h1.keep fun b _ hb hc => hcell b hb hc, (hcell x (blk_lt h2) ⟨_, h2, rfl⟩).trans h2, ?_, ?_, Nat.le_trans h5 hg.size⟩
  · exact h3.trans ⟨hg.os, hg.tape, hg.output, hg.size, fun b hb => by
      rcases Nat.lt_or_ge b W.heap.size with q | q
      · exact hg.block b q (fun e => by have := (hr b e.symm).1; omega)
      · have := h3.size; omega⟩
  · obtain ⟨Ds, e, hn, hD⟩ := h4
    refine ⟨Ds, e, hn, fun D q => ⟨(hD D q).1, (hg.block D (blk_lt (hD D q).2) (fun e2 => ?_)).trans (hD D q).2⟩⟩
    have := (hr D e2.symm).1
    have := hm D (by rw [e]; exact List.mem_map.2 ⟨D, q, rfl⟩)
    omega

theorem I1_next {N : Nat} {w2 : World} {cs : List S70} {mk : Mk} {i x : Nat} {ds : List Deferred} {pre : List (Nth cs.length)} {W W1 w9 : World} {y : Nth cs.length} (hI : I1 N w2 cs mk i x ds pre W) (hN : N = w2.heap.size) (hx : N + 4 ≤ x) {ws : List Int} {bs : List (List Int)} (hws : ws = (kputs i (pst cs mk i) pre).1) (hbs : bs = (kputs i (pst cs mk i) pre).2)
    {vs : List Value} (hR : RowsAt (W.setCell ⟨N, i, none⟩ (.int .i64 (wrap64 (ws.getD i 0 + 1)))) (N + 2) bs (fun b => N + 4 ≤ b ∧ (b < x ∨ x + 4 ≤ b)) vs) {v : Value} (hv : vs[y.1]? = some v) {l : List Int} (hl : l = bs.getD y.1 [])
    (hb1 : Below (W.setCell ⟨N, i, none⟩ (.int .i64 (wrap64 (ws.getD i 0 + 1)))).heap.size (W.setCell ⟨N, i, none⟩ (.int .i64 (wrap64 (ws.getD i 0 + 1)))) W1) (hk1 : KeepsOthers (W.setCell ⟨N, i, none⟩ (.int .i64 (wrap64 (ws.getD i 0 + 1)))) W1)
    (hg : W1.grownBy w9 v.ownBlock) {A : Option Addr} {C : Nat} (ho : w9.ownsRow 0 3 1 (.slice A (l.length + 1) C) (l.length + 1) (i64s l ++ [.int .i64 (i : Int)])) (hA : A.map Addr.block = v.ownBlock ∨ A.map Addr.block = some W1.heap.size) (B : Nat) :
    KeepsFrom B W (w9.setCell ⟨N + 2, y.1, none⟩ (.slice A (l.length + 1) C)) ∧ Kp w2.heap.size (x + 1) W (w9.setCell ⟨N + 2, y.1, none⟩ (.slice A (l.length + 1) C)) ∧ I1 N w2 cs mk i x ds (pre ++ [y]) (w9.setCell ⟨N + 2, y.1, none⟩ (.slice A (l.length + 1) C)) := by
  obtain ⟨V, hV⟩ : ∃ V, V = W.setCell ⟨N, i, none⟩ (.int .i64 (wrap64 (ws.getD i 0 + 1))) := ⟨_, rfl⟩
  rw [← hV] at hR hb1 hk1
  obtain ⟨m1, m2, m3, m4, m5⟩ := hI
  rw [← hws, ← hbs] at m1
  have hK := m1.setW i (wrap64 (ws.getD i 0 + 1))
  rw [← hV] at hK
  have hVs : V.heap.size = W.heap.size := by rw [hV]; simp [World.setCell]
  have hVW : ∀ b, b ≠ N → V.heap[b]? = W.heap[b]? := fun b hb => by rw [hV]; exact Below.heap_setCell W ⟨N, i, none⟩ _ b hb
  have hlen : (l ++ [(i : Int)]).length = l.length + 1 := by simp
  obtain ⟨k1, k2⟩ := hK.app (l := l ++ [(i : Int)]) hR hv hb1 hg (A := A) (C := C) (by rw [hlen]; simpa [i64s] using ho) hA
  rw [hlen] at k1 k2
  have hW9 : W.heap.size ≤ w9.heap.size := by have := hb1.size; have := hg.size; omega
  have hcell : ∀ (j : Nat) (o : Obj), v.ownBlock = some j → W1.heap[j]? = some o → o.isCells = true := fun j o e ho' => by
    have hkl : y.1 < bs.length := by rw [← hR.len]; exact (List.getElem?_eq_some_iff.1 hv).1
    obtain ⟨cells, hc⟩ := own_typed (hR.row _ _ _ hv (List.getElem?_eq_getElem hkl)) j e
    rw [hb1.block j (blk_lt hc), hc] at ho'
    cases ho'
    rfl
  have hko : KeepsOthers W (w9.setCell ⟨N + 2, y.1, none⟩ (.slice A (l.length + 1) C)) := (((by rw [hV]; exact KeepsOthers.setCell _ _ _ : KeepsOthers W V).trans hk1).trans (KeepsOthers.of_grownBy hg hcell)).trans (KeepsOthers.setCell _ _ _)
  have hos : (w9.setCell ⟨N + 2, y.1, none⟩ (.slice A (l.length + 1) C)).os = W.os ∧ (w9.setCell ⟨N + 2, y.1, none⟩ (.slice A (l.length + 1) C)).tape = W.tape ∧ (w9.setCell ⟨N + 2, y.1, none⟩ (.slice A (l.length + 1) C)).output = W.output := by
    refine ⟨hg.os.trans (hb1.os.trans (by rw [hV]; rfl)), hg.tape.trans (hb1.tape.trans (by rw [hV]; rfl)), hg.output.trans (hb1.output.trans (by rw [hV]; rfl))⟩
  have hsz : W.heap.size ≤ (w9.setCell ⟨N + 2, y.1, none⟩ (.slice A (l.length + 1) C)).heap.size := by simpa [World.setCell] using hW9
  have hblk : ∀ b, b < W.heap.size → b ≠ N → b ≠ N + 2 → ¬ (N + 4 ≤ b ∧ (b < x ∨ x + 4 ≤ b)) → (w9.setCell ⟨N + 2, y.1, none⟩ (.slice A (l.length + 1) C)).heap[b]? = W.heap[b]? := fun b h1 h2 h3 h4 => (k2 b h3 h4 (by omega)).trans (hVW b h2)
  refine ⟨hko.from B, ⟨hos.1, hos.2.1, hos.2.2, hsz, fun b hb hn => ?_⟩, ?_, ?_, ?_, ?_, by omega⟩
  · have hkb : KeepB w2.heap.size (x + 1) b := Classical.byContradiction fun q => hn q
    unfold KeepB at hkb
    exact hblk b hb (by omega) (by omega) (by omega)
  · rw [kputs_snoc]
    show KMem _ N (kput i (kputs i (pst cs mk i) pre) y.1).1 (kput i (kputs i (pst cs mk i) pre) y.1).2 _
    unfold kput
    rw [← hws, ← hbs, ← hl]
    exact k1.ok (fun b hb _ => by rcases hb with q | q; exact q; omega) fun b q => q.1
  · exact (hblk x (blk_lt m2) (by omega) (by omega) (by omega)).trans m2
  · exact m3.trans ⟨hos.1, hos.2.1, hos.2.2, hsz, fun b hb => by
      rcases Nat.lt_or_ge b W.heap.size with q | q
      · exact hblk b q (by omega) (by omega) (by omega)
      · have := m3.size; omega⟩
  · exact m4.keep fun b hb ⟨o, h1, h2⟩ => (hko.same b o h1 h2).trans h1.symm


/-! ### the second loop -/
def dec1 (ws : List Int) (k : Int) : List Int := ws.set k.toNat (wrap64 (ws.getD k.toNat 0 - 1))
def kstep (bs : List (List Int)) (st : List Nat × List Int) : Option (List Nat × List Int) :=
  (idx st.2 0).map fun i => (st.1 ++ [i], (bs.getD i []).foldl dec1 (st.2.set i (-1)))
/-- behind j rounds of the second loop -/
def kat (bs : List (List Int)) (ws : List Int) : Nat → Option (List Nat × List Int)
  | 0 => some ([], ws)
  | j + 1 => (kat bs ws j).bind (kstep bs)
theorem kat_none {bs : List (List Int)} {ws : List Int} {i : Nat} (h : kat bs ws i = none) : ∀ j, i ≤ j → kat bs ws j = none := by
  intro j hij
  induction hij with
  | refl => exact h
  | @step j hij ih => show (kat bs ws j).bind _ = none; rw [ih]; rfl
theorem dec_len (l : List Int) : ∀ ws : List Int, (l.foldl dec1 ws).length = ws.length := by
  induction l with
  | nil => intro ws; rfl
  | cons a l ih => intro ws; rw [List.foldl_cons, ih]; simp [dec1]
theorem kat_len {bs : List (List Int)} {ws : List Int} : ∀ (j : Nat) (st : List Nat × List Int), kat bs ws j = some st → st.1.length = j ∧ st.2.length = ws.length ∧ ∀ i ∈ st.1, i < ws.length := by
  intro j
  induction j with
  | zero => intro st h; cases h; exact ⟨rfl, rfl, fun i q => by cases q⟩
  | succ j ih =>
    intro st h
    obtain ⟨s1, h1, h2⟩ := Option.bind_eq_some_iff.1 h
    obtain ⟨a1, a2, a3⟩ := ih s1 h1
    unfold kstep at h2
    obtain ⟨i, hi, rfl⟩ := Option.map_eq_some_iff.1 h2
    have hlt := (idx_some hi).1
    refine ⟨by simp [a1], by rw [dec_len]; simpa using a2, fun q hq => ?_⟩
    rcases List.mem_append.1 hq with q1 | q1
    · exact a3 q q1
    · obtain rfl := List.mem_singleton.1 q1
      omega
/-- the order of a book's calls -/
def ordB (cs : List S70) (mk : Mk) : Option (List Nat) := (kat (pst cs mk cs.length).2 (pst cs mk cs.length).1 cs.length).map (·.1)
theorem ordB_none {cs : List S70} {mk : Mk} {j : Nat} (hj : j < cs.length) {st : List Nat × List Int} (h : kat (pst cs mk cs.length).2 (pst cs mk cs.length).1 j = some st) (hn : idx st.2 0 = none) : ordB cs mk = none := by
  unfold ordB
  rw [kat_none (i := j + 1) (by show (kat _ _ j).bind _ = none; rw [h]; show kstep _ st = none; unfold kstep; rw [hn]; rfl) cs.length (by omega)]
  rfl

def inR (n : Nat) (bs : List (List Int)) : Prop := ∀ (k : Nat), ∀ x ∈ bs.getD k [], 0 ≤ x ∧ x < (n : Int)
theorem kputs_inR {i n : Nat} (hi : i < n) {m : Nat} (st : KS) (h : inR n st.2) (l : List (Nth m)) : inR n (kputs i st l).2 := by
  unfold kputs
  induction l generalizing st with
  | nil => exact h
  | cons a l ih =>
    rw [List.foldl_cons]
    refine ih (kput i st a.1) fun k x hx => ?_
    unfold kput at hx
    simp only [List.getD_eq_getElem?_getD, List.getElem?_set] at hx
    split at hx
    · rename_i e
      subst e
      split at hx
      · simp only [Option.getD_some, List.mem_append, List.mem_singleton] at hx
        rcases hx with hx | rfl
        · exact h a.1 x (by simpa [List.getD_eq_getElem?_getD] using hx)
        · omega
      · simp at hx
    · exact h k x (by simpa [List.getD_eq_getElem?_getD] using hx)
theorem pst_inR (cs : List S70) (mk : Mk) : ∀ i, i ≤ cs.length → inR cs.length (pst cs mk i).2 := by
  intro i
  induction i with
  | zero =>
    intro _ k x hx
    simp only [pst, List.getD_eq_getElem?_getD, List.getElem?_replicate] at hx
    split at hx <;> simp at hx
  | succ i ih =>
    intro hi
    exact kputs_inR (by omega) _ (ih (by omega)) _

/-- ahead of a round of the second loop; wE: behind the first one -/
structure K2 (N : Nat) (w2 wE W : World) (ws : List Int) (bs : List (List Int)) (out : List Int) (v : Value) (ds : List Deferred) : Prop where
  mem : KMem W N ws bs (fun b => N + 4 ≤ b ∧ b < wE.heap.size)
  row : W.ownsRow wE.heap.size 3 1 v out.length (i64s out)
  below : Below N w2 W
  marks : Marks W N ds
  size : wE.heap.size ≤ W.heap.size
theorem K2.of {N : Nat} {w2 wE W W1 : World} {ws : List Int} {bs : List (List Int)} {out : List Int} {v : Value} {ds : List Deferred} (h : K2 N w2 wE W ws bs out v ds) (hb : Below W.heap.size W W1) (hN : N ≤ W.heap.size) : K2 N w2 wE W1 ws bs out v ds := by
  refine ⟨h.mem.keep fun b _ hb1 _ => hb.block b hb1, ?_, h.below.trans (hb.mono hN), h.marks.keep fun b hb1 _ => hb.block b hb1, Nat.le_trans h.size hb.size⟩
  refine ⟨h.row.1, ?_⟩
  rcases h.row.2 with hh | ⟨g, cap, cur, rfl, h1, hgg, rest⟩
  · exact .inl hh
  · refine .inr ⟨g, cap, cur, rfl, h1, ?_, rest⟩
    rw [hb.block g (blk_lt hgg)]
    exact hgg
theorem K2.setW {N : Nat} {w2 wE W : World} {ws : List Int} {bs : List (List Int)} {out : List Int} {v : Value} {ds : List Deferred} (h : K2 N w2 wE W ws bs out v ds) (hE : N < wE.heap.size) (i : Nat) (x : Int) : K2 N w2 wE (W.setCell ⟨N, i, none⟩ (.int .i64 x)) (ws.set i x) bs out v ds := by
  refine ⟨h.mem.setW i x, own_far h.row (fun e => ?_) _, ?_, h.marks.keep fun b hb ⟨o, h1, h2⟩ => ((KeepsOthers.setCell W ⟨N, i, none⟩ (.int .i64 x)).same b o h1 h2).trans h1.symm, by simpa [World.setCell] using h.size⟩
  · have := (h.row.lt _ e).1
    simp at this
    omega
  · refine h.below.trans ⟨rfl, rfl, rfl, by simp [World.setCell], fun b hb => Below.heap_setCell W ⟨N, i, none⟩ _ b (by simp; omega)⟩
theorem K2.app {N : Nat} {w2 wE W W1 W2 : World} {ws : List Int} {bs : List (List Int)} {out : List Int} {v : Value} {ds : List Deferred} (h : K2 N w2 wE W ws bs out v ds) (hE : N + 4 ≤ wE.heap.size) (hb : Below W.heap.size W W1) (hg : W1.grownBy W2 v.ownBlock) {x : Int} {A : Option Addr} {C : Nat} (ho : W2.ownsRow wE.heap.size 3 1 (.slice A (out.length + 1) C) (out.length + 1) (i64s out ++ [.int .i64 x])) :
    K2 N w2 wE W2 ws bs (out ++ [x]) (.slice A (out.length + 1) C) ds := by
  have h1 := h.of hb (by have := h.size; omega)
  have hrow : ∀ g, v.ownBlock = some g → wE.heap.size ≤ g := fun g e => (h.row.lt g e).1
  have hst : ∀ b, b < W1.heap.size → (∀ g, v.ownBlock = some g → b ≠ g) → W2.heap[b]? = W1.heap[b]? := fun b hb hn => hg.block b hb fun e => hn b e.symm rfl
  refine ⟨h1.mem.keep fun b hb1 hb2 _ => hst b hb2 fun g e => ?_, by simpa [i64s] using ho, h1.below.trans ⟨hg.os, hg.tape, hg.output, hg.size, fun b hb1 => ?_⟩, h1.marks.keep fun b hb1 ⟨o, q1, q2⟩ => hst b hb1 fun g e => ?_, Nat.le_trans h1.size hg.size⟩
  · have := hrow g e
    rcases hb1 with q | q <;> omega
  · rcases Nat.lt_or_ge b W1.heap.size with q | q
    · exact hst b q fun g e => by have := hrow g e; omega
    · have := h1.size; omega
  · rintro rfl
    obtain ⟨cells, hc⟩ := own_typed h1.row b e
    rw [hc] at q1
    cases q1
    cases q2
theorem KMem.reads {W : World} {N : Nat} {ws : List Int} {bs : List (List Int)} {ok : Nat → Prop} (h : KMem W N ws bs ok) (hl : ws.length ≤ 9223372036854775807) : Kd.C (Kd.int .i64) W (some ⟨N, 0, none⟩) ws.length ws := by
  refine ⟨rfl, hl, fun _ => ⟨⟨N, 0, none⟩, rfl, fun j p hp => ⟨[.int .i64 p], rfl, rfl, fun i u hu => ?_⟩⟩⟩
  rcases i with _ | i
  · cases hu
    have hj := blk_cell h.g8 (i := j) (show (i64s ws).toArray[j]? = some (.int .i64 p) by simp [i64s, hp])
    show W.cell? ((⟨N, 0, none⟩ : Addr).add (j * 1 + 0)) = _
    rw [Addr.add_lit, Nat.zero_add, Nat.mul_one, Nat.add_zero]
    exact hj
  · cases hu

/-! ### what Order answers -/
open Classical in
/-- the calls of a history, where it is one -/
noncomputable def readB (l0 : List S45) : Option (List S70) := (rat l0 l0.length).bind fun s => if (∀ k, s.opn k = none) ∧ s.calls.length ≤ 64 then some s.calls else none
theorem readB_none {l0 : List S45} (h : rat l0 l0.length = none) : readB l0 = none := by unfold readB; rw [h]; rfl
theorem readB_no {l0 : List S45} {s : RS} (h : rat l0 l0.length = some s) (hn : ¬ ((∀ k, s.opn k = none) ∧ s.calls.length ≤ 64)) : readB l0 = none := by
  unfold readB
  rw [h]
  exact if_neg hn
theorem readB_yes {l0 : List S45} {s : RS} (h : rat l0 l0.length = some s) (hn : (∀ k, s.opn k = none) ∧ s.calls.length ≤ 64) : readB l0 = some s.calls := by
  unfold readB
  rw [h]
  exact if_pos hn
def froms (cs : List S70) (os : List Nat) : List Int := os.map fun i : Nat => (rd_T70 cs i).f0
noncomputable def ordP (l0 : List S45) : Option (Option (List Int)) := (readB l0).map fun cs => (madeB cs).bind fun mk => (ordB cs mk).map (froms cs)
/-- what Order answers, for what -/
def OrdIs (w : World) (base : Nat) (v : Value) (b : Bool) (x : Int) : Option (Option (List Int)) → Prop
  | none => v = .slice none 0 0 ∧ b = false ∧ x = 230
  | some none => v = .slice none 0 0 ∧ b = false ∧ x = 0
  | some (some l) => w.ownsRow base 3 1 v l.length (i64s l) ∧ b = true ∧ x = 0
def OrdPost (w : World) (l0 : List S45) (e : Ending) (w' : World) : Prop := ∃ v b x, e = .returned (.tuple #[v, .bool b, .int .i64 x]) ∧ Below w.heap.size w w' ∧ OrdIs w' w.heap.size v b x (ordP l0)
theorem OrdPost.refused {w w' : World} {l0 : List S45} (h : readB l0 = none) (hb : Below w.heap.size w w') : OrdPost w l0 (.returned (.tuple #[.slice none 0 0, .bool false, .int .i64 230])) w' := ⟨_, _, _, rfl, hb, by unfold ordP; rw [h]; exact ⟨rfl, rfl, rfl⟩⟩
theorem OrdPost.none1 {w w' : World} {l0 : List S45} {cs : List S70} (h : readB l0 = some cs) (hm : madeB cs = none) (hb : Below w.heap.size w w') : OrdPost w l0 (.returned (.tuple #[.slice none 0 0, .bool false, .int .i64 0])) w' := ⟨_, _, _, rfl, hb, by unfold ordP; rw [h]; simp only [Option.map_some, hm, Option.bind_none]; exact ⟨rfl, rfl, rfl⟩⟩
theorem OrdPost.none2 {w w' : World} {l0 : List S45} {cs : List S70} {mk : Mk} (h : readB l0 = some cs) (hm : madeB cs = some mk) (ho : ordB cs mk = none) (hb : Below w.heap.size w w') : OrdPost w l0 (.returned (.tuple #[.slice none 0 0, .bool false, .int .i64 0])) w' := ⟨_, _, _, rfl, hb, by unfold ordP; rw [h]; simp only [Option.map_some, hm, Option.bind_some, ho, Option.map_none]; exact ⟨rfl, rfl, rfl⟩⟩
theorem OrdPost.yes {w w' : World} {l0 : List S45} {cs : List S70} {mk : Mk} {os : List Nat} {v : Value} (h : readB l0 = some cs) (hm : madeB cs = some mk) (ho : ordB cs mk = some os) (hb : Below w.heap.size w w') (hr : w'.ownsRow w.heap.size 3 1 v (froms cs os).length (i64s (froms cs os))) : OrdPost w l0 (.returned (.tuple #[v, .bool true, .int .i64 0])) w' := ⟨_, _, _, rfl, hb, by unfold ordP; rw [h]; simp only [Option.map_some, hm, Option.bind_some, ho]; exact ⟨hr, rfl, rfl⟩⟩

/-- a call that ended has as many values as keys, where it is a Snapshot -/
theorem ends_lens {o : S40} {r : S43} (hl : r.f2.length ≤ 9223372036854775807) (h : endsB o r = true) (h1 : o.f0 ≠ 1) (h2 : o.f0 ≠ 2) : r.f2.length = r.f3.length := by
  have hs := ends_some o r hl
  rw [h] at hs
  have hh := ends_loop r hl (r.f2.length + 1) 0 (Nat.zero_le _) (by omega)
  unfold hist_ends.f at hs
  have hz : ((0 : Nat) : Int) = 0 := rfl
  rw [hz] at hh
  simp only [h1, h2, if_false, hh] at hs
  have : (ascFrom r.f2 0 && tailB r) = true := by
    first
      | exact Option.some.inj hs
      | (split at hs <;> first | exact Option.some.inj hs | (exfalso; omega) | (split at hs <;> first | exact Option.some.inj hs | (exfalso; omega)))
  rw [Bool.and_eq_true] at this
  have ht := this.2
  unfold tailB at ht
  simp only [Bool.and_eq_true, decide_eq_true_eq] at ht
  exact ht.2.2
def lensOk (cs : List S70) : Prop := ∀ i, i < cs.length → (rd_T70 cs i).f2.f0 ≠ 1 → (rd_T70 cs i).f2.f0 ≠ 2 → (rd_T70 cs i).f3.f2.length = (rd_T70 cs i).f3.f3.length
theorem rd_app {cs : List S70} {c : S70} {i : Nat} (hi : i < cs.length + 1) : rd_T70 (cs ++ [c]) i = if i < cs.length then rd_T70 cs i else c := by
  unfold rd_T70
  simp only [Int.toNat_natCast, List.getD_eq_getElem?_getD]
  split
  · rename_i h
    rw [List.getElem?_append_left h]
  · rename_i h
    obtain rfl : i = cs.length := by omega
    simp
theorem rd_set {cs : List S70} {c : S70} {i n : Nat} (hn : n < cs.length) : rd_T70 (cs.set n c) i = if i = n then c else rd_T70 cs i := by
  unfold rd_T70
  simp only [Int.toNat_natCast, List.getD_eq_getElem?_getD, List.getElem?_set]
  split
  · rename_i h
    subst h
    simp
  · rename_i h
    rw [if_neg (fun q => h q.symm)]
theorem rat_lens {l0 : List S45} (hl : ∀ m ∈ l0, m.f3.f2.length ≤ 9223372036854775807) : ∀ (i : Nat) (s : RS), i ≤ l0.length → rat l0 i = some s → lensOk s.calls := by
  intro i
  induction i with
  | zero => intro s _ h; cases h; intro j hj; simp at hj
  | succ i ih =>
    intro s hi h
    have hm := List.getElem?_eq_getElem (show i < l0.length by omega)
    rw [rat_succ l0 i _ hm] at h
    obtain ⟨s1, h1, h2⟩ := Option.bind_eq_some_iff.1 h
    have hok := ih s1 (by omega) h1
    have hop := rat_opn i s1 (by omega) h1
    unfold rstep at h2
    split at h2
    · split at h2
      · obtain rfl := Option.some.inj h2
        intro j hj a1 a2
        simp only [List.length_append, List.length_singleton] at hj
        rw [rd_app hj] at a1 a2 ⊢
        split at a1
        · rename_i q
          rw [if_pos q] at a2 ⊢
          exact hok j q a1 a2
        · rename_i q
          rw [if_neg q]
          rfl
      · cases h2
    · split at h2
      · cases h2
      · rename_i n hn
        split at h2
        · rename_i hq
          obtain rfl := Option.some.inj h2
          intro j hj a1 a2
          simp only [List.length_set] at hj
          have hnl := hop _ _ hn
          rw [rd_set hnl] at a1 a2 ⊢
          split at a1
          · rename_i q
            rw [if_pos q] at a2 ⊢
            rw [hq.1.1] at a1 a2
            exact ends_lens (hl _ (List.getElem_mem _)) hq.2 a1 a2
          · rename_i q
            rw [if_neg q] at a2 ⊢
            exact hok j hj a1 a2
        · cases h2

theorem own_marks {W W' : World} {base base' n N : Nat} {e : TypeId} {v : Value} {xs : List Value} (h : W.ownsRow base e 1 v n xs) (ho : Only W W' (fun b => N + 4 ≤ b ∧ ∃ o : Obj, W.heap[b]? = some o ∧ o.isCells = false)) (hb : base' ≤ base) : W'.ownsRow base' e 1 v n xs := by
  refine ⟨h.1, ?_⟩
  rcases h.2 with hh | ⟨g, cap, cur, rfl, h1, hgg, rest⟩
  · exact .inl hh
  · refine .inr ⟨g, cap, cur, rfl, by omega, ?_, rest⟩
    rw [ho.block g (blk_lt hgg) (fun q => by
      obtain ⟨_, o, q1, q2⟩ := q
      rw [hgg] at q1
      cases q1
      cases q2)]
    exact hgg
/-- Order's blocks are shut, one by one -/
theorem leaves_marks {F : Fence} {n : Nat} {P : Program} {fn : Func} {tmps : Array Value} {R : Ending → World → Prop} {N : Nat} : ∀ (ds : List Deferred) (W : World), Marks W N ds →
    (∀ W', Only W W' (fun b => N + 4 ≤ b ∧ ∃ o : Obj, W.heap[b]? = some o ∧ o.isCells = false) → ∃ v, (results fn tmps).run P W' = .ok v W' ∧ R (.returned v) W') → LeavesInM F n P fn tmps R ds .returning W
  | [], W, _, h => h W (Only.refl _ _)
  | d :: ds, W, hm, h => by
    obtain ⟨Ds, e, hn, hD⟩ := hm
    cases Ds with
    | nil => cases e
    | cons D Ds =>
      simp only [List.map_cons, List.cons.injEq] at e
      obtain ⟨rfl, rfl⟩ := e
      obtain ⟨hnD, hn⟩ := List.nodup_cons.1 hn
      have h1 := hD D (by simp)
      refine ⟨by simp, .inl ⟨D, _, rfl, run_takeDeferred h1.2, leaves_marks _ _ ⟨Ds, rfl, hn, fun D' q => ⟨(hD D' (by simp [q])).1, ?_⟩⟩ fun W' ho => h W' ?_⟩⟩
      · exact (World.putObj_heap_other (by rintro rfl; exact hnD q)).trans (hD D' (by simp [q])).2
      · refine (only_putObj D _ ⟨h1.1, _, h1.2, rfl⟩ : Only W (W.putObj D (.deferred none)) _).trans ho fun b hb => ?_
        obtain ⟨q1, o, q2, q3⟩ := hb
        by_cases hbD : b = D
        · subst hbD
          exact .inl ⟨q1, _, h1.2, rfl⟩
        · exact .inl ⟨q1, o, (World.putObj_heap_other hbD).symm.trans q2, q3⟩
end Go.Proofs.Ytfahoomkpammiaa
