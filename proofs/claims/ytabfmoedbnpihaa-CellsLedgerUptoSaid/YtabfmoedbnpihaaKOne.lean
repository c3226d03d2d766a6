/- A step towards the laws on the cells of a run: one call of one memory (one). No conditions of its own beyond those that its theorems name. -/
import Derived.Test.YtabfmoedbnpihaaKFixed
import Derived.Test.YtabfmoedbnpihaaKDrop
namespace Go.Proofs.Ytabfmoedbnpihaa
open Go.RowKit Go.MapKept

/-- one call as it is asked for -/
structure POp where
  kind : Int
  on : Int
  n : Int
  heap : Bool
  v : Int × Int
  w : Int × Int
  cells : List Int

def POp.val (o : POp) (A : Option Addr) (ln cp : Nat) : Value := .agg #[.int .i64 o.kind, .int .i64 o.on, .int .i64 o.n, .bool o.heap, .int .i64 o.v.1, .int .i64 o.v.2, .int .i64 o.w.1, .int .i64 o.w.2, .slice A ln cp]

def PM.oneM (M : PM) (o : POp) : PM :=
  if o.kind = 2 then M.push else if o.kind = 3 then M.pop else if o.kind = 4 then M.make o.n o.heap else if o.kind = 6 then M.store o.v o.n o.w else if o.kind = 8 then M.setGlobal o.n o.v else if o.kind = 10 then M.drop o.cells else M
def PM.oneN (M : PM) (o : POp) : Int := if o.kind = 4 then M.mkN o.n else 0
def PM.oneV (M : PM) (o : POp) : Int × Int := if o.kind = 5 then M.load o.v o.n else if o.kind = 7 then M.global o.n else (0, 0)
def PM.oneE (M : PM) (o : POp) : Int :=
  if o.kind = 3 then M.popErr else if o.kind = 4 then M.mkErr o.n else if o.kind = 5 then M.err o.v o.n else if o.kind = 6 then M.storeErr o.v o.n o.w else if o.kind = 7 then M.gerr o.n else if o.kind = 8 then M.setGlobalErr o.n o.v else if o.kind = 10 then M.dropErr o.cells else 0

theorem Ext.before {w w1 w2 : World} {lab lab2 : Lab} (f : Fresh w w1) (h : Ext w1 w2 lab lab2) : Ext w w2 lab lab2 := (Ext.same (f.mono fun _ _ q => q.elim)).trans h
theorem Ext.after {w w1 w2 : World} {lab lab2 : Lab} (h : Ext w w1 lab lab2) (f : Fresh w1 w2) : Ext w w2 lab lab2 := h.trans (Ext.same (f.mono fun _ _ q => q.elim))
theorem alloc_fresh (w : World) (o : Obj) : Fresh w (w.alloc o) := (Only.refl _ _).alloc o

section
variable {w w1 : World} {p : Nat} {lab : Lab} {M : PM}

theorem Own.kept {w2 : World} (h : Own w w1 p lab M) (f : Fresh w1 w2) : Own w w2 p lab M ∧ Ext w1 w2 lab lab := ⟨h.keep f, Ext.same (f.mono fun _ _ q => q.elim)⟩
theorem two_out (h : Own w w1 p lab M) (o o' : Obj) : Out ((w1.alloc o).alloc o') lab (w1.heap.size + 1) := by
  have := (h.alloc o).out_new o'
  simpa using this
theorem two_blk (w1 : World) (o o' : Obj) : ((w1.alloc o).alloc o').heap[w1.heap.size + 1]? = some o' := by
  have := new_blk (w := w1.alloc o) o'
  simpa using this
theorem two_new (h : Own w w1 p lab M) {o o' : Obj} {w2 : World} {l2 : Lab} (X : Ext ((w1.alloc o).alloc o') w2 lab l2) : w2.heap[w1.heap.size + 1]? = some o' ∧ Out w2 l2 (w1.heap.size + 1) :=
  ⟨X.blk (two_out h o o') (two_blk w1 o o'), X.out (two_out h o o')⟩
theorem Own.set (h : Own w w1 p lab M) {q : Nat} (hq : Out w1 lab q) (hn : w.heap.size ≤ q) (i : Nat) (u : Value) : Own w (w1.setCell ⟨q, i, none⟩ u) p lab M :=
  ⟨h.mem.only (S := fun b => q = b) ((Only.refl _ _).setCell (.inl rfl) u) fun _ hb e => hb (e ▸ hq.1), h.new, h.fresh.setCell (.inr hn) u⟩
theorem Out.set {q i : Nat} {u : Value} {a : Nat} (h : Out w1 lab q) : Out (w1.setCell ⟨a, i, none⟩ u) lab q := ⟨h.1, by simpa using h.2⟩
theorem Ext.set {w2 : World} {lab2 : Lab} (h : Ext w1 w2 lab lab2) {q : Nat} (hn : w1.heap.size ≤ q) (i : Nat) (u : Value) : Ext w1 (w2.setCell ⟨q, i, none⟩ u) lab lab2 := ⟨h.only.setCell (.inr hn) u, h.keep, h.new⟩
theorem two_fin (h : Own w w1 p lab M) {o o' : Obj} {w2 : World} {l2 : Lab} {M' : PM} (hO : Own w w2 p l2 M') (X : Ext ((w1.alloc o).alloc o') w2 lab l2) (a c : Value) :
    Own w ((w2.setCell ⟨w1.heap.size + 1, 0, none⟩ a).setCell ⟨w1.heap.size + 1, 1, none⟩ c) p l2 M' ∧ Ext w1 ((w2.setCell ⟨w1.heap.size + 1, 0, none⟩ a).setCell ⟨w1.heap.size + 1, 1, none⟩ c) lab l2 := by
  have ho := (two_new h X).2
  have hs := h.size
  exact ⟨(hO.set ho (by omega) 0 a).set ho.set (by omega) 1 c, ((X.before (((Only.refl _ _).alloc _).alloc _)).set (by omega) 0 a).set (by omega) 1 c⟩
theorem set_read {w2 : World} {q : Nat} {x y : Value} {t : TypeId} (hb : w2.heap[q]? = some (.cells #[x, y] t (0, 0))) (a c : Value) :
    (w2.setCell ⟨q, 0, none⟩ a).cell? ⟨q, 0, none⟩ = some a ∧ ((w2.setCell ⟨q, 0, none⟩ a).setCell ⟨q, 1, none⟩ c).cell? ⟨q, 0, none⟩ = some a ∧ ((w2.setCell ⟨q, 0, none⟩ a).setCell ⟨q, 1, none⟩ c).cell? ⟨q, 1, none⟩ = some c := by
  have h1 := blk_set hb 0 a
  have h2 := blk_set h1 1 c
  exact ⟨blk_cell h1 rfl, blk_cell h2 rfl, blk_cell h2 rfl⟩
theorem alloc_fresh2 (w : World) (o o' : Obj) : Fresh w ((w.alloc o).alloc o') := ((Only.refl _ _).alloc o).alloc o'

set_option maxRecDepth 100000 in
set_option maxHeartbeats 1000000 in
theorem one_other (h : Own w w1 p lab M) (on n : Int) (heap : Bool) (v y : Int × Int) (A : Option Addr) (ln cp : Nat) (k : Int)
    (h2 : (k == 2) = false) (h3 : (k == 3) = false) (h4 : (k == 4) = false) (h5 : (k == 5) = false) (h6 : (k == 6) = false) (h7 : (k == 7) = false) (h8 : (k == 8) = false) (h9 : (k == 9) = false) (h10 : (k == 10) = false) :
    Calls Try.prog 26 #[.pointer (some ⟨p, 0, none⟩), .agg #[.int .i64 k, .int .i64 on, .int .i64 n, .bool heap, .int .i64 v.1, .int .i64 v.2, .int .i64 y.1, .int .i64 y.2, .slice A ln cp]] w1
      fun e w2 => e = .returned (.tuple #[.int .i64 0, vv (0, 0), .slice none 0 0, .int .i64 0]) ∧ ∃ lab2, Own w w2 p lab2 M ∧ Ext w1 w2 lab lab2 := by
  have H := Lib.hid h
  clear h
  go_enter Try.func26, Try.ntmps26
  go_wp2_with fail
  refine bodyPost_ret (v := .tuple #[.int .i64 0, vv (0, 0), .slice none 0 0, .int .i64 0]) ?_ rfl ⟨rfl, lab, ?_⟩
  · simp [results, Try.results26, go_sem]
  · exact H.out.kept (by repeat (first | exact Only.refl _ _ | refine Only.alloc ?_ _))

set_option maxRecDepth 100000 in
set_option maxHeartbeats 1000000 in
theorem one_push (h : Own w w1 p lab M) (on n : Int) (heap : Bool) (v y : Int × Int) (A : Option Addr) (ln cp : Nat) (hf : M.frames.length < Lim) :
    Calls Try.prog 26 #[.pointer (some ⟨p, 0, none⟩), .agg #[.int .i64 2, .int .i64 on, .int .i64 n, .bool heap, .int .i64 v.1, .int .i64 v.2, .int .i64 y.1, .int .i64 y.2, .slice A ln cp]] w1
      fun e w2 => e = .returned (.tuple #[.int .i64 0, vv (0, 0), .slice none 0 0, .int .i64 0]) ∧ ∃ lab2, Own w w2 p lab2 M.push ∧ Ext w1 w2 lab lab2 := by
  have H := Lib.hid h
  have hc := fun o o' => Own.push (h.keep (alloc_fresh2 w1 o o')) hf
  generalize hM : M.push = M2 at *
  have HC := Lib.hid hc
  clear h hc hM
  go_enter Try.func26, Try.ntmps26
  go_wp2_with fail
  refine (HC.out _ _).mono ?_
  rintro e w2 ⟨rfl, l2, O2, X2⟩
  have HO := Lib.hid O2
  have HX := Lib.hid X2
  have hb := (two_new H.out X2).1
  have c0 : w2.cell? ⟨w1.heap.size + 1, 0, none⟩ = some (.int .i64 0) := blk_cell hb rfl
  have c1 : w2.cell? ⟨w1.heap.size + 1, 1, none⟩ = some (.int .i64 0) := blk_cell hb rfl
  have c2 := blk_frozen hb 0
  have c3 := blk_frozen hb 1
  have c4 := blk_lt hb
  have HB := Lib.hid hb
  clear O2 X2 hb
  go_wp2_with fail
  obtain ⟨_, s1, s2⟩ := set_read HB.out (.int .i64 0) (.int .i64 0)
  refine bodyPost_ret (v := .tuple #[.int .i64 0, vv (0, 0), .slice none 0 0, .int .i64 0]) ?_ rfl ⟨rfl, l2, ?_⟩
  · simp [results, Try.results26, go_sem, s1, s2]
  · exact two_fin H.out HO.out HX.out _ _

set_option maxRecDepth 100000 in
set_option maxHeartbeats 1000000 in
theorem one_pop (h : Own w w1 p lab M) (on n : Int) (heap : Bool) (v y : Int × Int) (A : Option Addr) (ln cp : Nat) (hf : M.frames.length < Lim) (hfl : ∀ l ∈ M.frames, l.length < Lim) :
    Calls Try.prog 26 #[.pointer (some ⟨p, 0, none⟩), .agg #[.int .i64 3, .int .i64 on, .int .i64 n, .bool heap, .int .i64 v.1, .int .i64 v.2, .int .i64 y.1, .int .i64 y.2, .slice A ln cp]] w1
      fun e w2 => e = .returned (.tuple #[.int .i64 0, vv (0, 0), .slice none 0 0, .int .i64 M.popErr]) ∧ ∃ lab2, Own w w2 p lab2 M.pop ∧ Ext w1 w2 lab lab2 := by
  have H := Lib.hid h
  have hc := fun o o' => Own.pop (h.keep (alloc_fresh2 w1 o o')) hf hfl
  generalize hM : M.pop = M2 at *
  generalize M.popErr = r at *
  have HC := Lib.hid hc
  clear h hc hM
  go_enter Try.func26, Try.ntmps26
  go_wp2_with fail
  refine (HC.out _ _).mono ?_
  rintro e w2 ⟨rfl, l2, O2, X2⟩
  have HO := Lib.hid O2
  have HX := Lib.hid X2
  have hb := (two_new H.out X2).1
  have c0 : w2.cell? ⟨w1.heap.size + 1, 0, none⟩ = some (.int .i64 0) := blk_cell hb rfl
  have c1 : w2.cell? ⟨w1.heap.size + 1, 1, none⟩ = some (.int .i64 0) := blk_cell hb rfl
  have c2 := blk_frozen hb 0
  have c3 := blk_frozen hb 1
  have c4 := blk_lt hb
  have HB := Lib.hid hb
  clear O2 X2 hb
  go_wp2_with fail
  obtain ⟨_, s1, s2⟩ := set_read HB.out (.int .i64 0) (.int .i64 0)
  refine bodyPost_ret (v := .tuple #[.int .i64 0, vv (0, 0), .slice none 0 0, .int .i64 r]) ?_ rfl ⟨rfl, l2, ?_⟩
  · simp [results, Try.results26, go_sem, s1, s2]
  · exact two_fin H.out HO.out HX.out _ _

set_option maxRecDepth 100000 in
set_option maxHeartbeats 1000000 in
theorem one_make (h : Own w w1 p lab M) (on n : Int) (heap : Bool) (v y : Int × Int) (A : Option Addr) (ln cp : Nat) (hf : M.frames.length < Lim) (hmd : M.made < Lim) (hfl : ∀ l ∈ M.frames, l.length < Lim) :
    Calls Try.prog 26 #[.pointer (some ⟨p, 0, none⟩), .agg #[.int .i64 4, .int .i64 on, .int .i64 n, .bool heap, .int .i64 v.1, .int .i64 v.2, .int .i64 y.1, .int .i64 y.2, .slice A ln cp]] w1
      fun e w2 => e = .returned (.tuple #[.int .i64 (M.mkN n), vv (0, 0), .slice none 0 0, .int .i64 (M.mkErr n)]) ∧ ∃ lab2, Own w w2 p lab2 (M.make n heap) ∧ Ext w1 w2 lab lab2 := by
  have H := Lib.hid h
  have hc := fun o o' => Own.make (h.keep (alloc_fresh2 w1 o o')) n heap hf hmd hfl
  generalize hM : (M.make n heap) = M2 at *
  generalize M.mkErr n = r at *
  generalize M.mkN n = r1 at *
  have HC := Lib.hid hc
  clear h hc hM
  go_enter Try.func26, Try.ntmps26
  go_wp2_with fail
  refine (HC.out _ _).mono ?_
  rintro e w2 ⟨rfl, l2, O2, X2⟩
  have HO := Lib.hid O2
  have HX := Lib.hid X2
  have hb := (two_new H.out X2).1
  have c0 : w2.cell? ⟨w1.heap.size + 1, 0, none⟩ = some (.int .i64 0) := blk_cell hb rfl
  have c1 : w2.cell? ⟨w1.heap.size + 1, 1, none⟩ = some (.int .i64 0) := blk_cell hb rfl
  have c2 := blk_frozen hb 0
  have c3 := blk_frozen hb 1
  have c4 := blk_lt hb
  have HB := Lib.hid hb
  clear O2 X2 hb
  go_wp2_with fail
  obtain ⟨_, s1, s2⟩ := set_read HB.out (.int .i64 0) (.int .i64 0)
  refine bodyPost_ret (v := .tuple #[.int .i64 r1, vv (0, 0), .slice none 0 0, .int .i64 r]) ?_ rfl ⟨rfl, l2, ?_⟩
  · simp [results, Try.results26, go_sem, s1, s2]
  · exact two_fin H.out HO.out HX.out _ _

set_option maxRecDepth 100000 in
set_option maxHeartbeats 1000000 in
theorem one_store (h : Own w w1 p lab M) (on n : Int) (heap : Bool) (v y : Int × Int) (A : Option Addr) (ln cp : Nat) :
    Calls Try.prog 26 #[.pointer (some ⟨p, 0, none⟩), .agg #[.int .i64 6, .int .i64 on, .int .i64 n, .bool heap, .int .i64 v.1, .int .i64 v.2, .int .i64 y.1, .int .i64 y.2, .slice A ln cp]] w1
      fun e w2 => e = .returned (.tuple #[.int .i64 0, vv (0, 0), .slice none 0 0, .int .i64 (M.storeErr v n y)]) ∧ ∃ lab2, Own w w2 p lab2 (M.store v n y) ∧ Ext w1 w2 lab lab2 := by
  have H := Lib.hid h
  have hc := fun o o' => Own.store (h.keep (alloc_fresh2 w1 o o')) v y n
  generalize hM : (M.store v n y) = M2 at *
  generalize M.storeErr v n y = r at *
  have HC := Lib.hid hc
  clear h hc hM
  go_enter Try.func26, Try.ntmps26
  go_wp2_with fail
  refine (HC.out _ _).mono ?_
  rintro e w2 ⟨rfl, l2, O2, X2⟩
  have HO := Lib.hid O2
  have HX := Lib.hid X2
  have hb := (two_new H.out X2).1
  have c0 : w2.cell? ⟨w1.heap.size + 1, 0, none⟩ = some (.int .i64 0) := blk_cell hb rfl
  have c1 : w2.cell? ⟨w1.heap.size + 1, 1, none⟩ = some (.int .i64 0) := blk_cell hb rfl
  have c2 := blk_frozen hb 0
  have c3 := blk_frozen hb 1
  have c4 := blk_lt hb
  have HB := Lib.hid hb
  clear O2 X2 hb
  go_wp2_with fail
  obtain ⟨_, s1, s2⟩ := set_read HB.out (.int .i64 0) (.int .i64 0)
  refine bodyPost_ret (v := .tuple #[.int .i64 0, vv (0, 0), .slice none 0 0, .int .i64 r]) ?_ rfl ⟨rfl, l2, ?_⟩
  · simp [results, Try.results26, go_sem, s1, s2]
  · exact two_fin H.out HO.out HX.out _ _

set_option maxRecDepth 100000 in
set_option maxHeartbeats 1000000 in
theorem one_set (h : Own w w1 p lab M) (on n : Int) (heap : Bool) (v y : Int × Int) (A : Option Addr) (ln cp : Nat) :
    Calls Try.prog 26 #[.pointer (some ⟨p, 0, none⟩), .agg #[.int .i64 8, .int .i64 on, .int .i64 n, .bool heap, .int .i64 v.1, .int .i64 v.2, .int .i64 y.1, .int .i64 y.2, .slice A ln cp]] w1
      fun e w2 => e = .returned (.tuple #[.int .i64 0, vv (0, 0), .slice none 0 0, .int .i64 (M.setGlobalErr n v)]) ∧ ∃ lab2, Own w w2 p lab2 (M.setGlobal n v) ∧ Ext w1 w2 lab lab2 := by
  have H := Lib.hid h
  have hc := fun o o' => Own.setGlobal (h.keep (alloc_fresh2 w1 o o')) n v
  generalize hM : (M.setGlobal n v) = M2 at *
  generalize M.setGlobalErr n v = r at *
  have HC := Lib.hid hc
  clear h hc hM
  go_enter Try.func26, Try.ntmps26
  go_wp2_with fail
  refine (HC.out _ _).mono ?_
  rintro e w2 ⟨rfl, l2, O2, X2⟩
  have HO := Lib.hid O2
  have HX := Lib.hid X2
  have hb := (two_new H.out X2).1
  have c0 : w2.cell? ⟨w1.heap.size + 1, 0, none⟩ = some (.int .i64 0) := blk_cell hb rfl
  have c1 : w2.cell? ⟨w1.heap.size + 1, 1, none⟩ = some (.int .i64 0) := blk_cell hb rfl
  have c2 := blk_frozen hb 0
  have c3 := blk_frozen hb 1
  have c4 := blk_lt hb
  have HB := Lib.hid hb
  clear O2 X2 hb
  go_wp2_with fail
  obtain ⟨_, s1, s2⟩ := set_read HB.out (.int .i64 0) (.int .i64 0)
  refine bodyPost_ret (v := .tuple #[.int .i64 0, vv (0, 0), .slice none 0 0, .int .i64 r]) ?_ rfl ⟨rfl, l2, ?_⟩
  · simp [results, Try.results26, go_sem, s1, s2]
  · exact two_fin H.out HO.out HX.out _ _

set_option maxRecDepth 100000 in
set_option maxHeartbeats 1000000 in
theorem one_load (h : Own w w1 p lab M) (on n : Int) (heap : Bool) (v y : Int × Int) (A : Option Addr) (ln cp : Nat) :
    Calls Try.prog 26 #[.pointer (some ⟨p, 0, none⟩), .agg #[.int .i64 5, .int .i64 on, .int .i64 n, .bool heap, .int .i64 v.1, .int .i64 v.2, .int .i64 y.1, .int .i64 y.2, .slice A ln cp]] w1
      fun e w2 => e = .returned (.tuple #[.int .i64 0, vv (M.load v n), .slice none 0 0, .int .i64 (M.err v n)]) ∧ ∃ lab2, Own w w2 p lab2 M ∧ Ext w1 w2 lab lab2 := by
  have H := Lib.hid h
  have hc := fun o o' => Own.load (h.keep (alloc_fresh2 w1 o o')) v n
  generalize (M.err v n) = r at *
  generalize (M.load v n) = x at *
  obtain ⟨x0, x1⟩ := x
  have HC := Lib.hid hc
  clear h hc
  go_enter Try.func26, Try.ntmps26
  go_wp2_with fail
  refine (HC.out _ _).mono ?_
  rintro e w2 ⟨rfl, O2, F2⟩
  have HO := Lib.hid O2
  have HF := Lib.hid F2
  have hb := F2.cell (two_blk w1 _ _)
  have c0 : w2.cell? ⟨w1.heap.size + 1, 0, none⟩ = some (.int .i64 0) := blk_cell hb rfl
  have c1 : w2.cell? ⟨w1.heap.size + 1, 1, none⟩ = some (.int .i64 0) := blk_cell hb rfl
  have c2 := blk_frozen hb 0
  have c3 := blk_frozen hb 1
  have c4 := blk_lt hb
  have HB := Lib.hid hb
  clear O2 F2 hb
  go_wp2_with fail
  go_region
  have hs := blk_alloc (blk_set (blk_set HB.out 0 (.int .i64 x0)) 1 (.int .i64 x1)) (.cells #[.int .i64 x0, .int .i64 x1] 32)
  have s0 := blk_cell (i := 0) hs rfl
  have s1 := blk_cell (i := 1) hs rfl
  go_wp2_with fail
  refine bodyPost_ret (v := .tuple #[.int .i64 0, vv (x0, x1), .slice none 0 0, .int .i64 r]) ?_ rfl ⟨rfl, lab, ?_⟩
  · simp [results, Try.results26, go_sem, s0, s1]
  · obtain ⟨o9, e9⟩ := two_fin H.out HO.out (Ext.same (HF.out.mono fun _ _ q => q.elim)) (.int .i64 x0) (.int .i64 x1)
    have F : ∀ W o, Fresh W (World.drew (W.alloc o)) := fun W o => ((Only.refl _ _).alloc _).drew
    exact ⟨o9.keep (F _ _), e9.after (F _ _)⟩

set_option maxRecDepth 100000 in
set_option maxHeartbeats 1000000 in
theorem one_global (h : Own w w1 p lab M) (on n : Int) (heap : Bool) (v y : Int × Int) (A : Option Addr) (ln cp : Nat) :
    Calls Try.prog 26 #[.pointer (some ⟨p, 0, none⟩), .agg #[.int .i64 7, .int .i64 on, .int .i64 n, .bool heap, .int .i64 v.1, .int .i64 v.2, .int .i64 y.1, .int .i64 y.2, .slice A ln cp]] w1
      fun e w2 => e = .returned (.tuple #[.int .i64 0, vv (M.global n), .slice none 0 0, .int .i64 (M.gerr n)]) ∧ ∃ lab2, Own w w2 p lab2 M ∧ Ext w1 w2 lab lab2 := by
  have H := Lib.hid h
  have hc := fun o o' => Own.global (h.keep (alloc_fresh2 w1 o o')) n
  generalize (M.gerr n) = r at *
  generalize (M.global n) = x at *
  obtain ⟨x0, x1⟩ := x
  have HC := Lib.hid hc
  clear h hc
  go_enter Try.func26, Try.ntmps26
  go_wp2_with fail
  refine (HC.out _ _).mono ?_
  rintro e w2 ⟨rfl, O2, F2⟩
  have HO := Lib.hid O2
  have HF := Lib.hid F2
  have hb := F2.cell (two_blk w1 _ _)
  have c0 : w2.cell? ⟨w1.heap.size + 1, 0, none⟩ = some (.int .i64 0) := blk_cell hb rfl
  have c1 : w2.cell? ⟨w1.heap.size + 1, 1, none⟩ = some (.int .i64 0) := blk_cell hb rfl
  have c2 := blk_frozen hb 0
  have c3 := blk_frozen hb 1
  have c4 := blk_lt hb
  have HB := Lib.hid hb
  clear O2 F2 hb
  go_wp2_with fail
  go_region
  have hs := blk_alloc (blk_set (blk_set HB.out 0 (.int .i64 x0)) 1 (.int .i64 x1)) (.cells #[.int .i64 x0, .int .i64 x1] 32)
  have s0 := blk_cell (i := 0) hs rfl
  have s1 := blk_cell (i := 1) hs rfl
  go_wp2_with fail
  refine bodyPost_ret (v := .tuple #[.int .i64 0, vv (x0, x1), .slice none 0 0, .int .i64 r]) ?_ rfl ⟨rfl, lab, ?_⟩
  · simp [results, Try.results26, go_sem, s0, s1]
  · obtain ⟨o9, e9⟩ := two_fin H.out HO.out (Ext.same (HF.out.mono fun _ _ q => q.elim)) (.int .i64 x0) (.int .i64 x1)
    have F : ∀ W o, Fresh W (World.drew (W.alloc o)) := fun W o => ((Only.refl _ _).alloc _).drew
    exact ⟨o9.keep (F _ _), e9.after (F _ _)⟩

end
end Go.Proofs.Ytabfmoedbnpihaa
