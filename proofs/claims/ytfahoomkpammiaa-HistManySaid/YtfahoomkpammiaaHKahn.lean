/- A step towards the laws on histories: the numbers that wait, and the lists behind each call, in memory. No conditions of its own beyond those that its theorems name. -/
import Derived.Test.YtfahoomkpammiaaHIter
import Derived.Laws.MakeOwn
import Derived.RangeFuncWrites
namespace Go.Proofs.Ytfahoomkpammiaa
open Go.RowKit Go.MapKept Go.Shelf Go.Proofs.YtfahoomkpammiaaW.PrintWords Go.Proofs.YtfahoomkpammiaaW.PrintLast Go.Proofs.YtfahoomkpammiaaW.PrintMore Go.Proofs.Ytfahoomkpammiaa.PHistOrders

theorem run_make_rowN {P : Program} (t e : TypeId) (i : TypeInfo) (z : Value) (ht : P.underlying t = some (.slice e)) (hi : P.info? e = some i) (hz : i.zero = some z)
    (kl kc : IntKind) (n c : Nat) (hnc : n ≤ c) (hbytes : i.bytes * c ≤ 281474976710656) (h63 : c ≤ 9223372036854775807) (w : World) :
    (Instr.makeSlice t (.int kl (n : Int)) (.int kc (c : Int))).run P w = .ok (.slice (some ⟨w.heap.size, 0, none⟩) n c) (w.alloc (.cells (madeCells z.cells (c * i.size)) e)) := by
  have hb : (i.bytes : Int) * (c : Int) ≤ 281474976710656 := by
    have h : ((i.bytes * c : Nat) : Int) ≤ 281474976710656 := by omega
    rwa [Int.natCast_mul] at h
  have hr := run_make (P := P) w t e i z ht hi hz kl kc n c (by omega) (by omega) hb (by omega)
  simp only [Int.toNat_natCast] at hr
  exact hr
theorem madeCells_one (z : Value) (hz : z.cells = #[z]) (n : Nat) : madeCells z.cells (n * 1) = (List.replicate n z).toArray := by
  apply Array.ext'
  apply List.ext_getElem?
  intro i
  rw [hz]
  simp only [madeCells, Array.toList_map, Array.toList_range, List.getElem?_map, List.getElem?_replicate, Nat.mul_one]
  by_cases h : i < n
  · rw [List.getElem?_range h, if_pos h]
    simp [Nat.mod_one]
  · rw [List.getElem?_eq_none (by simp; omega), if_neg h]
    rfl
theorem infoInts : (Try.prog.info? 25).map (fun i => (i.zero, i.size, i.bytes)) = some (some (.slice none 0 0), 1, 24) := by kernel_rfl
theorem run_makeInts (n : Nat) (hn : n ≤ 1099511627776) : ∀ w, (Instr.makeSlice 25 (.int .i64 (n : Int)) (.int .i64 (n : Int))).run Try.prog w = .ok (.slice (some ⟨w.heap.size, 0, none⟩) n n) (w.alloc (.cells (List.replicate n (Value.int .i64 0)).toArray 3)) := by
  intro w
  obtain ⟨i0, hi, hz0, hz1, hz2⟩ := info_parts info3
  have := run_make_rowN 25 3 i0 _ Try.underlying25 hi hz0 .i64 .i64 n n (Nat.le_refl _) (by rw [hz2]; omega) (by omega) w
  rw [hz1, madeCells_one _ rfl] at this
  exact this
theorem run_makeRows (n : Nat) (hn : n ≤ 1099511627776) : ∀ w, (Instr.makeSlice 59 (.int .i64 (n : Int)) (.int .i64 (n : Int))).run Try.prog w = .ok (.slice (some ⟨w.heap.size, 0, none⟩) n n) (w.alloc (.cells (List.replicate n (Value.slice none 0 0)).toArray 25)) := by
  intro w
  obtain ⟨i0, hi, hz0, hz1, hz2⟩ := info_parts infoInts
  have := run_make_rowN 59 25 i0 _ Try.underlying59 hi hz0 .i64 .i64 n n (Nat.le_refl _) (by rw [hz2]; omega) (by omega) w
  rw [hz1, madeCells_one _ rfl] at this
  exact this

theorem nameWI {F : Fence} {n : Nat} {P : Program} {C : Code} {Q : Exit → Act → World → Prop} {a : Act} {W : World} (h : ∀ V, V = W → Code.wpIn F n P C Q a V) : Code.wpIn F n P C Q a W := h W rfl
section
variable {F : Fence} {n' : Nat} {P : Program} (w : World)
theorem wpIn_app {o : Oper} {a : Act} {K : Act → World → Prop} {Q : Exit → Act → World → Prop} (s x : Operand) (t : TypeId)
    (ho : o.op = .call { callee := .builtin .append, args := #[s, x], argTypes := #[t, t] })
    (base : Nat) (e : TypeId) (i : TypeInfo) (z : Value) (size bytes : Nat) (ht : P.underlying t = some (.slice e)) (hi : P.info? e = some i) (hz : i.zero = some z)
    (hsize : i.size = size) (hby : i.bytes = bytes) (hzs : z.cells.size = size) (hsz : 0 < size)
    (v : Value) (n : Nat) (xs : List Value) (hs : a.eval s = v) (hown : w.ownsRow base e size v n xs)
    (g m c : Nat) (news : List Value) (e' : TypeId) (fr : Nat × Nat) (hx : a.eval x = .slice (some ⟨g, 0, none⟩) m c) (hr : w.heap[g]? = some (.cells news.toArray e' fr)) (hl : news.length = m * size) (h1 : ∀ u ∈ news, u.oneCell' = true)
    (h63 : n + m ≤ maxLen) (hbytes : (n + m) * bytes ≤ 140737488355328) (hbase : base ≤ w.heap.size)
    (h : ∀ A C w', w'.ownsRow base e size (.slice A (n + m) C) (n + m) (xs ++ news) → w.grownBy w' v.ownBlock → (A.map Addr.block = v.ownBlock ∨ A.map Addr.block = some w.heap.size) → K (a.put o.dst (.slice A (n + m) C)) w') : o.wpIn F n' P a w K Q := by
  obtain ⟨A, C, w', hrun, h2, h3, h4⟩ := run_app (P := P) w base t o.type e i z size bytes ht hi hz hsize hby hzs hsz v n xs hown g m c news e' fr hr hl h1 h63 hbytes hbase
  unfold Oper.wpIn
  refine ⟨?_, ?_⟩
  · simp [Oper.about, ho, resolve, Target.leads, Sem.run_pure]
  · rw [Oper.semAt_plain F _ _ (by rw [ho]; intro c hc'; cases hc')]
    simp [execOp, ho, resolve, invoke, builtin, hs, hx, hrun, Result.andThen]
    exact h A C w' h2 h3 h4
theorem step_appIn {ops : Array Oper} {o : Oper} {a : Act} {K : Act → World → Prop} {Q : Exit → Act → World → Prop} {E : Prop} (hgd : o.guard = none) (s x : Operand) (t : TypeId)
    (ho : o.op = .call { callee := .builtin .append, args := #[s, x], argTypes := #[t, t] })
    (base : Nat) (e : TypeId) (i : TypeInfo) (z : Value) (size bytes : Nat) (ht : P.underlying t = some (.slice e)) (hi : P.info? e = some i) (hz : i.zero = some z)
    (hsize : i.size = size) (hby : i.bytes = bytes) (hzs : z.cells.size = size) (hsz : 0 < size)
    (v : Value) (n : Nat) (xs : List Value) (hs : a.eval s = v) (hown : w.ownsRow base e size v n xs)
    (g m c : Nat) (news : List Value) (e' : TypeId) (fr : Nat × Nat) (hx : a.eval x = .slice (some ⟨g, 0, none⟩) m c) (hr : w.heap[g]? = some (.cells news.toArray e' fr)) (hl : news.length = m * size) (h1 : ∀ u ∈ news, u.oneCell' = true)
    (h63 : n + m ≤ maxLen) (hbytes : (n + m) * bytes ≤ 140737488355328) (hbase : base ≤ w.heap.size)
    (h : ∀ A C w', w'.ownsRow base e size (.slice A (n + m) C) (n + m) (xs ++ news) → w.grownBy w' v.ownBlock → (A.map Addr.block = v.ownBlock ∨ A.map Addr.block = some w.heap.size) → K (a.put o.dst (.slice A (n + m) C)) w') :
    if Region.wanted o (yielded ops a.tmps) = true then Oper.wpIn F n' P o a w K Q else E := by
  have hw : Region.wanted o (yielded ops a.tmps) = true := by simp [Region.wanted, hgd]
  rw [if_pos hw]
  exact wpIn_app w s x t ho base e i z size bytes ht hi hz hsize hby hzs hsz v n xs hs hown g m c news e' fr hx hr hl h1 h63 hbytes hbase h
theorem wpIn_at_zero {F : Fence} {n : Nat} {P : Program} {o : Oper} {l : List Oper} {h : 0 < (o :: l).toArray.size} {a : Act} {w : World} {K : Act → World → Prop} {Q : Exit → Act → World → Prop} : Oper.wpIn F n P ((o :: l).toArray[0]'h) a w K Q = Oper.wpIn F n P o a w K Q := rfl
theorem wpIn_at_succ {F : Fence} {n : Nat} {P : Program} {o : Oper} {l : List Oper} {m : Nat} {h : m + 1 < (o :: l).toArray.size} {a : Act} {w : World} {K : Act → World → Prop} {Q : Exit → Act → World → Prop} : Oper.wpIn F n P ((o :: l).toArray[m + 1]'h) a w K Q = Oper.wpIn F n P (l.toArray[m]'(by simpa using h)) a w K Q := rfl
/-- an append that is not reckoned through -/
structure AppIn (F : Fence) (n : Nat) (P : Program) (o : Oper) (a : Act) (w : World) (K : Act → World → Prop) (Q : Exit → Act → World → Prop) : Prop where
  out : o.wpIn F n P a w K Q
theorem appIn_eq {F : Fence} {n : Nat} {P : Program} {d : Option Tmp} {xs : Array Operand} {ts : Array TypeId} {t : TypeId} {p : String} {af : Array Edge} {g : Option (Nat × Bool)} {a : Act} {w : World} {K : Act → World → Prop} {Q : Exit → Act → World → Prop} :
    Oper.wpIn F n P { dst := d, op := .call { callee := .builtin .append, args := xs, argTypes := ts }, type := t, pos := p, after := af, guard := g } a w K Q = AppIn F n P { dst := d, op := .call { callee := .builtin .append, args := xs, argTypes := ts }, type := t, pos := p, after := af, guard := g } a w K Q :=
  propext ⟨fun h => ⟨h⟩, fun h => h.out⟩
end

abbrev i64s (l : List Int) : List Value := l.map (Value.int .i64)
/-- block g holds slices, each a row of its own of ints; the rows' blocks are ok -/
structure RowsAt (W : World) (g : Nat) (bs : List (List Int)) (ok : Nat → Prop) (vs : List Value) : Prop where
  blk : W.heap[g]? = some (.cells vs.toArray 25 (0, 0))
  len : vs.length = bs.length
  row : ∀ (i : Nat) (v : Value) (l : List Int), vs[i]? = some v → bs[i]? = some l → W.ownsRow 0 3 1 v l.length (i64s l)
  ok : ∀ (i : Nat) (v : Value) (h : Nat), vs[i]? = some v → v.ownBlock = some h → ok h
  apart : ∀ (i j : Nat) (v v' : Value) (h : Nat), vs[i]? = some v → vs[j]? = some v' → v.ownBlock = some h → v'.ownBlock = some h → i = j
/-- the numbers that wait (in g8, told by x8), the lists (in g9, told by x9) -/
structure KMem (W : World) (N : Nat) (ws : List Int) (bs : List (List Int)) (ok : Nat → Prop) : Prop where
  w8 : W.heap[N + 1]? = some (.cells #[.slice (some ⟨N, 0, none⟩) ws.length ws.length] 25 (0, 0))
  g8 : W.heap[N]? = some (.cells (i64s ws).toArray 3 (0, 0))
  w9 : W.heap[N + 3]? = some (.cells #[.slice (some ⟨N + 2, 0, none⟩) bs.length bs.length] 59 (0, 0))
  g9 : ∃ vs, RowsAt W (N + 2) bs ok vs
  no : ∀ b, ok b → N + 4 ≤ b
/-- what is kept, all these stay -/
theorem RowsAt.keep {W W1 : World} {g : Nat} {bs : List (List Int)} {ok : Nat → Prop} {vs : List Value} (h : RowsAt W g bs ok vs) (hk : ∀ b, b = g ∨ ok b → b < W.heap.size → (∃ o : Obj, W.heap[b]? = some o ∧ o.isCells = true) → W1.heap[b]? = W.heap[b]?) : RowsAt W1 g bs ok vs := by
  refine ⟨(hk g (.inl rfl) (blk_lt h.blk) ⟨_, h.blk, rfl⟩).trans h.blk, h.len, fun i v l hv hl => ?_, h.ok, h.apart⟩
  have ho := h.row i v l hv hl
  refine ⟨ho.1, ?_⟩
  rcases ho.2 with hh | ⟨g2, cap, cur, rfl, hb, hgg, rest⟩
  · exact .inl hh
  · refine .inr ⟨g2, cap, cur, rfl, hb, ?_, rest⟩
    rw [hk g2 (.inr (h.ok i _ g2 hv rfl)) (blk_lt hgg) ⟨_, hgg, rfl⟩]
    exact hgg
theorem KMem.keep {W W1 : World} {N : Nat} {ws : List Int} {bs : List (List Int)} {ok : Nat → Prop} (h : KMem W N ws bs ok) (hk : ∀ b, (N ≤ b ∧ b < N + 4) ∨ ok b → b < W.heap.size → (∃ o : Obj, W.heap[b]? = some o ∧ o.isCells = true) → W1.heap[b]? = W.heap[b]?) : KMem W1 N ws bs ok := by
  obtain ⟨vs, hv⟩ := h.g9
  refine ⟨(hk _ (.inl (by omega)) (blk_lt h.w8) ⟨_, h.w8, rfl⟩).trans h.w8, (hk _ (.inl (by omega)) (blk_lt h.g8) ⟨_, h.g8, rfl⟩).trans h.g8, (hk _ (.inl (by omega)) (blk_lt h.w9) ⟨_, h.w9, rfl⟩).trans h.w9, ⟨vs, hv.keep fun b hb => hk b ?_⟩, h.no⟩
  rcases hb with rfl | hb
  · exact .inl (by omega)
  · exact .inr hb
theorem KMem.ok {W : World} {N : Nat} {ws : List Int} {bs : List (List Int)} {ok ok' : Nat → Prop} (h : KMem W N ws bs ok) (hi : ∀ b, ok b → b < W.heap.size → ok' b) (hn : ∀ b, ok' b → N + 4 ≤ b) : KMem W N ws bs ok' := by
  obtain ⟨vs, hv⟩ := h.g9
  refine ⟨h.w8, h.g8, h.w9, ⟨vs, hv.blk, hv.len, hv.row, fun i v g hi' hg => hi g (hv.ok i v g hi' hg) ?_, hv.apart⟩, hn⟩
  have hlt : i < bs.length := by rw [← hv.len]; exact (List.getElem?_eq_some_iff.1 hi').1
  exact own_lt (hv.row i v _ hi' (List.getElem?_eq_getElem hlt)) hg
/-- at the start -/
theorem KMem.start {w : World} (n : Nat) : KMem ((((w.alloc (.cells (List.replicate n (Value.int .i64 0)).toArray 3)).alloc (.cells #[.slice (some ⟨w.heap.size, 0, none⟩) n n] 25)).alloc (.cells (List.replicate n (Value.slice none 0 0)).toArray 25)).alloc (.cells #[.slice (some ⟨w.heap.size + 2, 0, none⟩) n n] 59)) w.heap.size (List.replicate n 0) (List.replicate n []) (fun b => w.heap.size + 4 ≤ b) := by
  refine ⟨?_, ?_, ?_, ⟨List.replicate n (.slice none 0 0), ?_, by simp, fun i v l hv hl => ?_, fun i v h hv hb => ?_, fun i j v v' h hv _ hb _ => ?_⟩, fun _ q => q⟩
  · have := blk_new (w.alloc (.cells (List.replicate n (Value.int .i64 0)).toArray 3)) (.cells #[.slice (some ⟨w.heap.size, 0, none⟩) n n] 25)
    simp only [World.size_alloc] at this
    simpa using blk_alloc (blk_alloc this _) _
  · have := blk_new w (.cells (List.replicate n (Value.int .i64 0)).toArray 3)
    have h2 := blk_alloc (blk_alloc (blk_alloc this (.cells #[.slice (some ⟨w.heap.size, 0, none⟩) n n] 25)) (.cells (List.replicate n (Value.slice none 0 0)).toArray 25)) (.cells #[.slice (some ⟨w.heap.size + 2, 0, none⟩) n n] 59)
    rw [show i64s (List.replicate n 0) = List.replicate n (Value.int .i64 0) by simp]
    exact h2
  · have := blk_new (((w.alloc (.cells (List.replicate n (Value.int .i64 0)).toArray 3)).alloc (.cells #[.slice (some ⟨w.heap.size, 0, none⟩) n n] 25)).alloc (.cells (List.replicate n (Value.slice none 0 0)).toArray 25)) (.cells #[.slice (some ⟨w.heap.size + 2, 0, none⟩) n n] 59)
    simp only [World.size_alloc] at this
    simpa using this
  · have := blk_new ((w.alloc (.cells (List.replicate n (Value.int .i64 0)).toArray 3)).alloc (.cells #[.slice (some ⟨w.heap.size, 0, none⟩) n n] 25)) (.cells (List.replicate n (Value.slice none 0 0)).toArray 25)
    simp only [World.size_alloc] at this
    exact blk_alloc this _
  · rw [List.getElem?_replicate] at hv hl
    split at hv
    · rename_i hi
      rw [if_pos hi] at hl
      cases hv
      cases hl
      exact World.ownsRow_nil _ _ _ _
    · cases hv
  · rw [List.getElem?_replicate] at hv
    split at hv
    · cases hv; cases hb
    · cases hv
  · rw [List.getElem?_replicate] at hv
    split at hv
    · cases hv; cases hb
    · cases hv

theorem KMem.setW {W : World} {N : Nat} {ws : List Int} {bs : List (List Int)} {ok : Nat → Prop} (h : KMem W N ws bs ok) (i : Nat) (x : Int) : KMem (W.setCell ⟨N, i, none⟩ (.int .i64 x)) N (ws.set i x) bs ok := by
  obtain ⟨vs, hv⟩ := h.g9
  have hfar : ∀ b, b ≠ N → (W.setCell ⟨N, i, none⟩ (.int .i64 x)).heap[b]? = W.heap[b]? := fun b hb => Below.heap_setCell W ⟨N, i, none⟩ _ b hb
  refine ⟨by rw [List.length_set]; exact (hfar _ (by omega)).trans h.w8, ?_, (hfar _ (by omega)).trans h.w9, ⟨vs, hv.keep fun b hb _ _ => hfar b ?_⟩, h.no⟩
  · have := blk_set h.g8 i (.int .i64 x)
    rw [this]
    simp [i64s, List.map_set]
  · rcases hb with rfl | hb
    · omega
    · have := h.no b hb; omega
/-- a list that was gone on with -/
theorem KMem.app {W W1 W2 : World} {N : Nat} {ws : List Int} {bs : List (List Int)} {ok : Nat → Prop} {vs : List Value} (h : KMem W N ws bs ok) (hv : RowsAt W (N + 2) bs ok vs) {k : Nat} {v : Value} (hk : vs[k]? = some v) {l : List Int}
    (hb1 : Below W.heap.size W W1) (hg : W1.grownBy W2 v.ownBlock) {A : Option Addr} {C : Nat} (ho : W2.ownsRow 0 3 1 (.slice A l.length C) l.length (i64s l)) (hA : A.map Addr.block = v.ownBlock ∨ A.map Addr.block = some W1.heap.size) :
    KMem (W2.setCell ⟨N + 2, k, none⟩ (.slice A l.length C)) N ws (bs.set k l) (fun b => ok b ∨ W.heap.size ≤ b) ∧ ∀ b, b ≠ N + 2 → ¬ ok b → b < W.heap.size → (W2.setCell ⟨N + 2, k, none⟩ (.slice A l.length C)).heap[b]? = W.heap[b]? := by
  have hkl : k < bs.length := by rw [← hv.len]; exact (List.getElem?_eq_some_iff.1 hk).1
  have hvok : ∀ g, v.ownBlock = some g → ok g ∧ g < W.heap.size := fun g hg => ⟨hv.ok k v g hk hg, own_lt (hv.row k v _ hk (List.getElem?_eq_getElem hkl)) hg⟩
  have hstep : ∀ b, b < W.heap.size → v.ownBlock ≠ some b → W2.heap[b]? = W.heap[b]? := fun b hb hn => (hg.block b (Nat.lt_of_lt_of_le hb hb1.size) (fun e => hn e.symm)).trans (hb1.block b hb)
  have hfar : ∀ b, b ≠ N + 2 → (W2.setCell ⟨N + 2, k, none⟩ (.slice A l.length C)).heap[b]? = W2.heap[b]? := fun b hb => Below.heap_setCell W2 ⟨N + 2, k, none⟩ _ b hb
  have hnv : ∀ b, b < N + 4 → v.ownBlock ≠ some b := fun b hb e => by have := h.no b (hvok b e).1; omega
  have hAok : ∀ g, A.map Addr.block = some g → (ok g ∧ v.ownBlock = some g) ∨ W.heap.size ≤ g := fun g hg => by
    rcases hA with q | q
    · rw [q] at hg; exact .inl ⟨(hvok g hg).1, hg⟩
    · rw [q] at hg; cases hg; exact .inr hb1.size
  have hN2 : N + 2 < W.heap.size := blk_lt hv.blk
  refine ⟨⟨?_, ?_, ?_, ⟨vs.set k (.slice A l.length C), ?_, by simp [hv.len], fun i u m hu hm => ?_, fun i u g hu hg => ?_, fun i j u u' g hu hu' hg hg' => ?_⟩, fun b hb => ?_⟩, fun b h1 h2 h3 => ?_⟩
  · exact (hfar _ (by omega)).trans ((hstep _ (blk_lt h.w8) (hnv _ (by omega))).trans h.w8)
  · exact (hfar _ (by omega)).trans ((hstep _ (blk_lt h.g8) (hnv _ (by omega))).trans h.g8)
  · rw [List.length_set]
    exact (hfar _ (by omega)).trans ((hstep _ (blk_lt h.w9) (hnv _ (by omega))).trans h.w9)
  · have := blk_set ((hstep _ hN2 (hnv _ (by omega))).trans hv.blk) k (.slice A l.length C)
    rw [this]
    simp
  · rw [List.getElem?_set] at hu hm
    split at hu
    · rename_i hki
      subst hki
      rw [if_pos rfl, if_pos hkl] at hm
      rw [if_pos (by rw [hv.len]; exact hkl)] at hu
      cases hu
      cases hm
      refine own_far ho (fun e => ?_) _
      rw [own_map] at e
      rcases hAok _ e with ⟨q, _⟩ | q
      · have := h.no _ q; simp at this
      · simp at q; omega
    · rename_i hki
      rw [if_neg hki] at hm
      have hr := hv.row i u m hu hm
      have hne : ∀ g, u.ownBlock = some g → v.ownBlock ≠ some g := fun g h1 h2 => hki (hv.apart k i v u g hk hu h2 h1)
      have hkeep : W2.ownsRow 0 3 1 u m.length (i64s m) := by
        refine ⟨hr.1, ?_⟩
        rcases hr.2 with hh | ⟨g2, cap, cur, rfl, hb, hgg, rest⟩
        · exact .inl hh
        · refine .inr ⟨g2, cap, cur, rfl, hb, ?_, rest⟩
          rw [hstep g2 (blk_lt hgg) (hne g2 rfl)]
          exact hgg
      refine own_far hkeep (fun e => ?_) _
      have := h.no _ (hv.ok i u _ hu e)
      simp at this
  · rw [List.getElem?_set] at hu
    split at hu
    · split at hu
      · cases hu
        rw [own_map] at hg
        rcases hAok g hg with ⟨q, _⟩ | q
        · exact .inl q
        · exact .inr q
      · cases hu
    · exact .inl (hv.ok i u g hu hg)
  · rw [List.getElem?_set] at hu hu'
    have hx : ∀ (a : Nat) (y : Value), a ≠ k → vs[a]? = some y → y.ownBlock = some g → A.map Addr.block = some g → False := fun a y hak hy hyg hAg => by
      rcases hAok g hAg with ⟨_, q⟩ | q
      · exact hak (hv.apart a k y v g hy hk hyg q)
      · have hal : a < bs.length := by rw [← hv.len]; exact (List.getElem?_eq_some_iff.1 hy).1
        have := own_lt (hv.row a y _ hy (List.getElem?_eq_getElem hal)) hyg
        omega
    by_cases h1 : k = i
    · by_cases h2 : k = j
      · exact h1.symm.trans h2
      · rw [if_neg h2] at hu'
        rw [if_pos h1] at hu
        split at hu
        · cases hu
          rw [own_map] at hg
          exact (hx j u' (fun e => h2 e.symm) hu' hg' hg).elim
        · cases hu
    · rw [if_neg h1] at hu
      by_cases h2 : k = j
      · rw [if_pos h2] at hu'
        split at hu'
        · cases hu'
          rw [own_map] at hg'
          exact (hx i u (fun e => h1 e.symm) hu hg hg').elim
        · cases hu'
      · rw [if_neg h2] at hu'
        exact hv.apart i j u u' g hu hu' hg hg'
  · rcases hb with hb | hb
    · exact h.no b hb
    · have := blk_lt h.w9; omega
  · exact (hfar b h1).trans (hstep b h3 fun e => h2 (hvok b e).1)
end Go.Proofs.Ytfahoomkpammiaa
