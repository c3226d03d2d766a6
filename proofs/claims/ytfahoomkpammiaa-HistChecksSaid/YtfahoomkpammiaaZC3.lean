/- Steps towards the law (texts of this seat, put into one). No conditions of its own beyond those that its theorems name. -/
import Derived.Test.YtfahoomkpammiaaZC2
import Derived.Deep.RegionHeld3
import Derived.Test.YtfahoomkpammiaaWWords
import Derived.Test.YtfahoomkpammiaaZC1
import Derived.ArgAppend
import Derived.Maps.AppendAt
import Derived.Deep.Slices
import Derived.ChangeArms
import Derived.SizedLaws
import Derived.Test.YtfahoomkpammiaaPHistOrdersx0
import Derived.Test.YtfahoomkpammiaaRows
import Derived.ProofKit
import Derived.OpenShut
import Derived.ShutString
import Derived.ChangeOld
import Derived.Below
import Derived.Deep.Fields
import Derived.ChangeSame
namespace Go.Proofs.Ytfahoomkpammiaa
open Go.RowKit Go.MapKept Go.Proofs.YtfahoomkpammiaaW.PrintWords Go.Proofs.YtfahoomkpammiaaW.PrintLast Go.Proofs.YtfahoomkpammiaaW.PrintMore Go.Proofs.Ytfahoomkpammiaa.PHistOrders
def IntsOut (w w' : World) (e : Ending) (out : List Int) : Prop := Below w.heap.size w w' ∧ ∃ A c, e = .returned (.slice A out.length c) ∧ out.length ≤ c ∧ (Kd.int .i64).C w' A out.length out
structure Copied (w w' : World) (v : Value) (l : List Int) : Prop where
  row : w'.ownsRow w.heap.size 3 1 v l.length (encs (Value.int .i64) l)
  below : Below w.heap.size w w'
theorem Copied.cell {w w' : World} {v : Value} {l : List Int} (h : Copied w w' v l) {p : Addr} {u : Value} (hc : w.cell? p = some u) : w'.cell? p = some u := (h.below.cell (World.block_lt_of_cell? w _ hc)).trans hc
structure Longer (w w1 : World) (g cap : Nat) (l : List Int) (x : Int) : Prop where
  row : w1.ownsRow w.heap.size 3 1 (.slice (some ⟨g, 0, none⟩) (l.length + 1) cap) (l.length + 1) (encs (Value.int .i64) l ++ [.int .i64 x])
  below : Below w.heap.size w w1
theorem Longer.reads {w w1 : World} {g cap : Nat} {l : List Int} {x : Int} (h : Longer w w1 g cap l x) : (Kd.int .i64).C w1 (some ⟨g, 0, none⟩) (l ++ [x]).length (l ++ [x]) ∧ (l ++ [x]).length ≤ cap := by
  have h1 : w1.ownsRow w.heap.size 3 1 (.slice (some ⟨g, 0, none⟩) (l ++ [x]).length cap) (l ++ [x]).length ((l ++ [x]).map (Value.int .i64)) := by
    have := h.row
    unfold encs at this
    rw [List.length_append, List.map_append]
    exact this
  exact own_reads1 (h1 := fun _ => rfl) h1
end Go.Proofs.Ytfahoomkpammiaa
namespace Go.Proofs.Ytfahoomkpammiaa
open Go.RowKit Go.Proofs.YtfahoomkpammiaaW.PrintWords
def AppTwo (W w1 : World) (v v1 : Value) : Prop := (v1.ownBlock = v.ownBlock ∧ W.grownBy w1 v.ownBlock) ∨ (W.grownBy w1 none ∧ ∀ g, v1.ownBlock = some g → W.heap.size ≤ g)
theorem run_app_two {P : Program} (w : World) (base : Nat) (t ty e : TypeId) (i : TypeInfo) (z : Value) (size bytes : Nat) (ht : P.underlying t = some (.slice e)) (hi : P.info? e = some i) (hz : i.zero = some z)
    (hsize : i.size = size) (hby : i.bytes = bytes) (hzs : z.cells.size = size) (hsz : 0 < size) (v : Value) (n : Nat) (xs : List Value) (hown : w.ownsRow base e size v n xs)
    (a : Addr) (m c : Nat) (news : List Value) (hl : news.length = m * size) (hnews : ∀ j u, news[j]? = some u → w.cell? (a.add j) = some u) (h1 : ∀ u ∈ news, u.oneCell' = true)
    (h63 : n + m ≤ maxLen) (hbytes : (n + m) * bytes ≤ 140737488355328) (hbase : base ≤ w.heap.size) :
    ∃ v' w', (Builtin.append_ #[t, t] ty #[v, .slice (some a) m c]).run P w = .ok v' w' ∧ w'.ownsRow base e size v' (n + m) (xs ++ news) ∧ AppTwo w w' v v' := by
  obtain ⟨v', w', hr, ho, hg, _, hat⟩ := run_append_own_at (P := P) w base t ty e i z size bytes ht hi hz hsize hby hzs hsz v n xs hown a m c news hl hnews h1 h63 hbytes hbase
  rcases hown.2 with ⟨rfl, rfl⟩ | ⟨g, cap, cur, rfl, hbg, hgg, hnc, hcm, hcs, htk⟩
  · refine ⟨v', w', hr, ho, .inr ⟨hg, fun g e => ?_⟩⟩
    rcases hat with q | q
    · rw [q] at e; cases e
    · rw [q] at e; cases e; exact Nat.le_refl _
  · by_cases hroom : n + m ≤ cap
    · have hin : ∀ j, j < news.length → n * size + j < cur.size := fun j hj => by
        have := Nat.mul_le_mul_right size hroom
        rw [Nat.add_mul] at this
        rw [hcs]
        omega
      have hr2 := run_append_room_cells (P := P) w t ty e i ht hi g 0 n cap a m c news (by rw [hsize]; exact hl) hnews h1 hroom (fun j hj => by
        rw [Nat.zero_add, hsize, blk_cell hgg (Array.getElem?_eq_getElem (hin j hj))]
        rfl) (fun j hj => blk_frozen hgg _)
      rw [hr] at hr2
      injection hr2 with e1 e2
      exact ⟨v', w', hr, ho, .inl ⟨by rw [e1]; rfl, hg⟩⟩
    · have hx : xs.length = n * size := hown.1
      have holds : ∀ j u, xs[j]? = some u → w.cell? ((⟨g, 0, none⟩ : Addr).add j) = some u := fun j u hu => by
        have hadd : (⟨g, 0, none⟩ : Addr).add j = ⟨g, j, none⟩ := by unfold Addr.add; split <;> simp_all
        rw [hadd]
        refine blk_cell hgg ?_
        rw [← htk, List.getElem?_take] at hu
        split at hu
        · rw [Array.getElem?_toList] at hu
          exact hu
        · cases hu
      obtain ⟨v2, w2, hr2, ho2, hg2⟩ := run_append_arg_grows (P := P) w t ty e i z size bytes ht hi hz hsize hby hzs hsz ⟨g, 0, none⟩ n cap xs hx holds a m c news hl hnews (by omega) h63 hbytes
      rw [hr] at hr2
      injection hr2 with e1 e2
      subst e1; subst e2
      exact ⟨v', w', hr, ho, .inr ⟨hg2, fun b e => own_base ho2 b e⟩⟩
section
variable {P : Program} {ops : Array Oper} {rest : List Oper} {o : Oper} {a : Act} {Q : Exit → Act → World → Prop}
theorem app_two {W : World} (base : Nat) (hgd : o.guard = none) (s x : Operand) (t e : TypeId) (z : Value) (size bytes : Nat)
    (ho : o.op = .call { callee := .builtin .append, args := #[s, x], argTypes := #[t, t] })
    (ht : P.underlying t = some (.slice e)) (hinfo : (P.info? e).map (fun i => (i.zero, i.size, i.bytes)) = some (some z, size, bytes)) (hz : z.cells.size = size) (hs0 : 0 < size) (hb0 : 0 < bytes)
    (v : Value) (n : Nat) (xs ys : List Value) (hs : a.eval s = v) (hx : a.eval x = .slice (some ⟨W.heap.size, 0, none⟩) 1 1) (hys : ys.length = size) (h1 : ∀ u ∈ ys, u.oneCell' = true)
    (HO : W.ownsRow base e size v n xs) (hbase : base ≤ W.heap.size) (hl : (n + 1) * bytes ≤ 140737488355328)
    (h : ∀ v1 w1, w1.ownsRow base e size v1 (n + 1) (xs ++ ys) → AppTwo W w1 v v1 → wpList P ops Q rest (a.put o.dst v1) w1) :
    wpList P ops Q (o :: rest) a (W.alloc (.cells ys.toArray e)) := by
  obtain ⟨i0, hi, hzz⟩ := Option.map_eq_some_iff.1 hinfo
  simp only [Prod.mk.injEq] at hzz
  obtain ⟨hz0, hz1, hz2⟩ := hzz
  have hlen : n + 1 ≤ 140737488355328 := Nat.le_trans (Nat.le_mul_of_pos_right _ hb0) hl
  refine wpList_plain hgd fun K hK => ?_
  obtain ⟨v', w', hr, h2, h3⟩ := run_app_two (P := P) (W.alloc (.cells ys.toArray e)) base t o.type e i0 z size bytes ht hi hz0 hz1 hz2 hz hs0 v n xs (HO.alloc _) ⟨W.heap.size, 0, none⟩ 1 1 ys (by rw [hys]; simp)
    (by simpa using World.news_of_block (cs := ys.toArray) (t := e) (fr := (0, 0)) (heap_alloc_new W (.cells ys.toArray e))) h1 (by simp only [maxLen]; omega) hl (by simp; omega)
  unfold Oper.wp execOp
  simp only [ho, resolve, invoke, builtin, Sem.run_bind, Sem.run_pure, Result.andThen_ok, List.map_toArray, List.map_cons, List.map_nil, hs, hx, hr]
  refine hK _ _ (h v' w' h2 ?_)
  rcases h3 with ⟨q1, q2⟩ | ⟨q1, q2⟩
  · exact .inl ⟨q1, World.grownBy.trans (World.grownBy_alloc W _ _) q2⟩
  · refine .inr ⟨World.grownBy.trans (World.grownBy_alloc W _ _) q1, fun g e => ?_⟩
    have := q2 g e
    simp at this
    omega
end
theorem AppTwo.only {W w1 : World} {v v1 : Value} (h : AppTwo W w1 v v1) : W.grownBy w1 v.ownBlock := by
  rcases h with ⟨_, h⟩ | ⟨h, _⟩
  · exact h
  · exact ⟨h.os, h.tape, h.output, h.size, fun k hk _ => h.block k hk (by simp)⟩
end Go.Proofs.Ytfahoomkpammiaa
namespace Go.Proofs.Ytfahoomkpammiaa
open Go.RowKit Go.MapKept Go.Proofs.YtfahoomkpammiaaW.PrintWords Go.Proofs.YtfahoomkpammiaaW.PrintLast Go.Proofs.YtfahoomkpammiaaW.PrintMore Go.Proofs.Ytfahoomkpammiaa.PHistOrders
noncomputable def wantB (l0 : List S45) : List Int := ((refB l0).bind toldB).getD []
theorem order_row {w : World} {base : Nat} {v : Value} {b : Bool} {x : Int} {l0 : List S45} (h : OrdIs w base v b x ((refB l0).map toldB)) :
    w.ownsRow base 3 1 v (wantB l0).length (i64s (wantB l0)) ∧ x = (if (refB l0).isNone then 230 else 0) ∧ b = ((refB l0).bind toldB).isSome := by
  unfold wantB
  cases q : refB l0 with
  | none =>
    rw [q] at h
    obtain ⟨rfl, rfl, rfl⟩ := h
    exact ⟨own_nil _ _ _ _, rfl, rfl⟩
  | some cs =>
    rw [q] at h
    simp only [Option.map_some] at h
    simp only [Option.bind_some]
    cases t : toldB cs with
    | none =>
      rw [t] at h
      obtain ⟨rfl, rfl, rfl⟩ := h
      exact ⟨own_nil _ _ _ _, rfl, rfl⟩
    | some os =>
      rw [t] at h
      obtain ⟨h1, rfl, rfl⟩ := h
      exact ⟨h1, rfl, rfl⟩
theorem ordP_ref {l0 : List S45} (hs : ShortH l0) : ordP l0 = (refB l0).map toldB := by rw [ordP_told, read_eq hs]
theorem check_ref {l0 : List S45} (hs : ShortH l0) : checkP l0 = rcheckP l0 := by
  unfold checkP rcheckP
  rw [read_eq hs]
  cases refB l0 <;> simp
theorem want_len (l0 : List S45) (hs : ShortH l0) : (wantB l0).length ≤ 64 := by
  unfold wantB
  cases q : refB l0 with
  | none => exact Nat.zero_le _
  | some cs =>
    have hc := read_csok hs (by rw [read_eq hs]; exact q)
    rw [Option.bind_some]
    cases t : toldB cs with
    | none => exact Nat.zero_le _
    | some os => rw [Option.getD_some, told_len hc t]; exact hc.few
theorem row_reads {w : World} {base : Nat} {v : Value} {l : List Int} (h : w.ownsRow base 3 1 v l.length (i64s l)) : ∃ A c, v = .slice A l.length c ∧ l.length ≤ c ∧ (Kd.int .i64).C w A l.length l := by
  obtain ⟨A, c, rfl⟩ := own_slice h
  obtain ⟨k, hl⟩ := own_reads1 (h1 := fun _ => rfl) (xs := l) h
  exact ⟨A, c, rfl, hl, k⟩
theorem eqints_same (l : List Int) (hl : l.length ≤ 9223372036854775806) : fugueref00_EqInts.f (l.length + 1) l l = some true := by
  obtain ⟨r, h1, h2⟩ := eqints_some l l hl
  obtain rfl : r = true := h2.2 rfl
  exact h1
set_option maxRecDepth 200000 in
set_option maxHeartbeats 4000000 in
theorem same_walk (w : World) (A : Option Addr) (c : Nat) (B : Option Addr) (d : Nat) (l0 : List S45) (hr : Kd.C k45 w A l0.length l0) (hc : l0.length ≤ c) (hb : Kd.C k45 w B l0.length l0) (hd : l0.length ≤ d) (hs : ShortH l0) :
    Calls Try.prog 18 #[.slice A l0.length c, .slice B l0.length d] w fun e w' => e = .returned (.bool true) ∧ Below w.heap.size w w' := by
  have HR := Lib.hid (And.intro hr (And.intro hc (And.intro hb (And.intro hd hs))))
  have HWL := Lib.hid (want_len l0 hs)
  have HCK := Lib.hid (check_ref hs)
  clear hr hc hb hd hs
  obtain ⟨xx, hxx⟩ : ∃ xx : Int, xx = (if (refB l0).isNone then 230 else 0) := ⟨_, rfl⟩
  obtain ⟨bb, hbb⟩ : ∃ bb : Bool, bb = ((refB l0).bind toldB).isSome := ⟨_, rfl⟩
  obtain ⟨L, hL⟩ : ∃ L, L = wantB l0 := ⟨_, rfl⟩
  have HXX := Lib.hid (And.intro hxx (And.intro hbb hL))
  rw [← hL] at HWL
  have hLl := HWL.out
  clear hxx hbb hL
  go_enter Try.func18, Try.ntmps18
  go_wp2_with fail
  refine (check_walk w A c l0 HR.out.1 HR.out.2.1 HR.out.2.2.2.2.1).mono ?_
  rintro e w1 ⟨rfl, hb1⟩
  have HB1 := Lib.hid hb1
  clear hb1
  rw [HCK.out]
  obtain ⟨ck, hck⟩ : ∃ ck, ck = rcheckP l0 := ⟨_, rfl⟩
  rw [← hck]
  have HK := Lib.hid hck
  clear hck
  go_wp2_with fail
  refine (order_walk w1 A c l0 (Kd.C_below HR.out.1 HB1.out) HR.out.2.1 HR.out.2.2.2.2.1).mono ?_
  rintro e w2 ⟨v, b, x, rfl, hb2, ho⟩
  have HB2 := Lib.hid (below_step HB1.out hb2)
  rw [ordP_ref HR.out.2.2.2.2] at ho
  obtain ⟨hrow, hx, hbb⟩ := order_row ho
  rw [← HXX.out.2.2] at hrow
  replace hx := hx.trans HXX.out.1.symm
  replace hbb := hbb.trans HXX.out.2.1.symm
  subst hx
  subst hbb
  obtain ⟨A1, c1, rfl, l1, k1⟩ := row_reads hrow
  have H1 := Lib.hid (And.intro l1 k1)
  clear hb2 ho hrow l1 k1
  go_wp2_with fail
  refine (rorder_walk w2 B d l0 (Kd.C_below HR.out.2.2.1 HB2.out) HR.out.2.2.2.1 HR.out.2.2.2.2).mono ?_
  rintro e w3 ⟨v, b2, x2, rfl, hb3, ho⟩
  have HB3 := Lib.hid (below_step HB2.out hb3)
  have HB23 := Lib.hid hb3
  obtain ⟨hrow, hx, hbb⟩ := order_row ho
  rw [← HXX.out.2.2] at hrow
  replace hx := hx.trans HXX.out.1.symm
  replace hbb := hbb.trans HXX.out.2.1.symm
  subst hx
  subst hbb
  obtain ⟨A2, c2, rfl, l2, k2⟩ := row_reads hrow
  have H2 := Lib.hid (And.intro l2 k2)
  clear hb3 ho hrow l2 k2
  go_wp2_with fail
  refine (rcheck_walk w3 B d l0 (Kd.C_below HR.out.2.2.1 HB3.out) HR.out.2.2.2.1 HR.out.2.2.2.2.1).mono ?_
  rintro e w4 ⟨rfl, hb4⟩
  have HB4 := Lib.hid (below_step HB3.out hb4)
  have HB34 := Lib.hid hb4
  clear hb4
  rw [← HK.out]
  have hckD : (ck == ck) = true := beq_self_eq_true ck
  go_wp2_with fail
  refine (fugueref00_EqInts.calls (L.length + 1) A1 c1 L A2 c2 L true w4 (Kd.C_below H1.out.2 (HB23.out.trans (HB34.out.mono (below_size HB23.out)))) H1.out.1 (Kd.C_below H2.out.2 HB34.out) H2.out.1 (eqints_same L (by omega))).mono ?_
  rintro e w5 ⟨rfl, hd5⟩
  have HB5 := Lib.hid (below_step HB4.out hd5.below)
  clear hd5
  go_wp2_with fail
  go_ret
  exact ⟨rfl, HB5.out⟩
def marksD (z : Int) (k : Nat) : List Int := (List.range k).map fun j : Nat => z - j
theorem marksD_succ (z : Int) (k : Nat) : marksD z (k + 1) = marksD z k ++ [z - k] := by unfold marksD; rw [List.range_succ, List.map_append]; rfl
theorem marksD_len (z : Int) (k : Nat) : (marksD z k).length = k := by unfold marksD; simp
theorem marksD_at {z : Int} {k j : Nat} (h : j < k) : (marksD z k).getD j 0 = z - j := by unfold marksD; simp [List.getD_eq_getElem?_getD, h]
structure FarInv (base : Nat) (wS wr : World) (n : Nat) (ys : List Int) (va vf : Value) : Prop where
  row : wr.ownsRow base 3 1 vf ys.length (i64s ys)
  only : Only wS wr fun b => va.ownBlock = some b
  home : ∀ g, vf.ownBlock = some g → va.ownBlock = some g ∨ wS.heap.size ≤ g
  alive : ∀ g, va.ownBlock = some g → ∃ cur, wr.heap[g]? = some (.cells cur 3 (0, 0)) ∧ n ≤ cur.size
theorem own_curr {w : World} {base n g : Nat} {e : TypeId} {v : Value} {xs : List Value} (h : w.ownsRow base e 1 v n xs) (hg : v.ownBlock = some g) : ∃ cur, w.heap[g]? = some (.cells cur e (0, 0)) ∧ n ≤ cur.size := by
  rcases h.2 with ⟨rfl, _⟩ | ⟨g', cap, cur, rfl, _, hh, hn, _, hs, _⟩
  · cases hg
  · cases hg
    exact ⟨cur, hh, by omega⟩
theorem FarInv.start {base : Nat} {wS : World} {L : List Int} {v : Value} (h : wS.ownsRow base 3 1 v L.length (i64s L)) : FarInv base wS wS L.length L v v :=
  ⟨h, Only.refl _ _, fun _ e => .inl e, fun _ e => own_curr h e⟩
theorem FarInv.app {base : Nat} {wS wr w1 : World} {n : Nat} {ys : List Int} {va vf v1 : Value} {x : Int} (h : FarInv base wS wr n ys va vf) (hn : n ≤ ys.length) (ho : w1.ownsRow base 3 1 v1 (ys.length + 1) (i64s ys ++ [.int .i64 x])) (ht : AppTwo wr w1 vf v1) : FarInv base wS w1 n (ys ++ [x]) va v1 := by
  refine ⟨by rw [List.length_append, i64s, List.map_append]; exact ho, h.only.grown ht.only fun g e => h.home g e, fun g e => ?_, fun g e => ?_⟩
  · rcases ht with ⟨q, _⟩ | ⟨_, q⟩
    · exact h.home g (by rw [← q]; exact e)
    · have := q g e
      have := h.only.size
      exact .inr (by omega)
  · obtain ⟨cur, hc, hl⟩ := h.alive g e
    rcases ht with ⟨q1, q2⟩ | ⟨q1, _⟩
    · by_cases hv : vf.ownBlock = some g
      · obtain ⟨cur', hc', hl'⟩ := own_curr ho (q1.trans hv)
        exact ⟨cur', hc', by omega⟩
      · exact ⟨cur, (q2.block g (blk_lt hc) fun q => hv q.symm).trans hc, hl⟩
    · exact ⟨cur, (q1.block g (blk_lt hc) (by simp)).trans hc, hl⟩
theorem FarInv.store {base : Nat} {wS wr : World} {n g i : Nat} {c : Nat} {ys : List Int} {vf : Value} (h : FarInv base wS wr n ys (.slice (some ⟨g, 0, none⟩) n c) vf) (x : Int) : FarInv base wS (wr.setCell ⟨g, i, none⟩ (.int .i64 x)) n (if vf.ownBlock = some g then ys.set i x else ys) (.slice (some ⟨g, 0, none⟩) n c) vf := by
  refine ⟨?_, h.only.setCell (p := ⟨g, i, none⟩) (.inl rfl) _, h.home, fun k e => ?_⟩
  · by_cases hv : vf.ownBlock = some g
    · rw [if_pos hv]
      obtain ⟨A, C, rfl⟩ := own_slice h.row
      rcases h.row.2 with ⟨q, _⟩ | ⟨g', cap, cur, q, _⟩
      · rw [q] at hv; cases hv
      · injection q with q1 _ q3
        subst q1; subst q3
        cases hv
        have := own_setS h.row i (.int .i64 x)
        rw [List.length_set, i64s, List.map_set]
        exact this
    · rw [if_neg hv]
      exact own_far h.row hv _
  · cases e
    obtain ⟨cur, hc, hl⟩ := h.alive g rfl
    exact ⟨_, blk_set hc i _, by simpa using hl⟩
def Marked (z : Int) (n : Nat) (ys : List Int) : Prop := ys.length = n + 64 ∧ ∀ j, j < 64 → ys.getD (n + j) 0 = z - j
theorem marked_app {L : List Int} {z : Int} : Marked z L.length (L ++ marksD z 64) := by
  refine ⟨by rw [List.length_append, marksD_len], fun j hj => ?_⟩
  rw [List.getD_eq_getElem?_getD, List.getElem?_append_right (by omega), Nat.add_sub_cancel_left, ← List.getD_eq_getElem?_getD]
  exact marksD_at hj
theorem marked_set {ys : List Int} {z : Int} {n i : Nat} (h : Marked z n ys) (hi : i < n) (x : Int) (b : Prop) [Decidable b] : Marked z n (if b then ys.set i x else ys) := by
  split
  · refine ⟨by rw [List.length_set]; exact h.1, fun j hj => ?_⟩
    rw [getD_set ys i x 0 (by have := h.1; omega), if_neg (by omega)]
    exact h.2 j hj
  · exact h
theorem FarInv.keep {base : Nat} {wS wr : World} {n : Nat} {ys : List Int} {va vf : Value} (h : FarInv base wS wr n ys va vf) {base2 m : Nat} {v : Value} {xs : List Value} (hr : wS.ownsRow base2 3 1 v m xs) (hn : ∀ g, v.ownBlock = some g → va.ownBlock ≠ some g) : wr.ownsRow base2 3 1 v m xs :=
  h.only.row hr fun g e q => hn g e q
theorem FarInv.below {base : Nat} {wS wr : World} {n : Nat} {ys : List Int} {va vf : Value} (h : FarInv base wS wr n ys va vf) {w : World} (hb : Below w.heap.size w wS) (ha : ∀ g, va.ownBlock = some g → w.heap.size ≤ g) : Below w.heap.size w wr :=
  hb.trans (h.only.below (below_size hb) ha)
set_option maxRecDepth 200000 in
set_option maxHeartbeats 8000000 in
theorem owns_walk (w : World) (A : Option Addr) (c : Nat) (l0 : List S45) (hr : Kd.C k45 w A l0.length l0) (hc : l0.length ≤ c) (hs : ShortH l0) (Aw : Option Addr) (cw : Nat) (L : List Int) (hL : L = wantB l0) (hw : (Kd.int .i64).C w Aw L.length L) (hcw : L.length ≤ cw) :
    Calls Try.prog 16 #[.slice A l0.length c, .slice Aw L.length cw] w fun e w' => e = .returned (.bool true) ∧ Below w.heap.size w w' := by
  have HR := Lib.hid (And.intro hr (And.intro hc (And.intro hs (And.intro hw hcw))))
  have hLl : L.length ≤ 64 := by rw [hL]; exact want_len l0 hs
  have HWL := Lib.hid hL
  have HEQ := Lib.hid (eqints_same L (by omega))
  clear hr hc hs hw hcw hL
  go_enter Try.func16, Try.ntmps16
  go_wp2_with fail
  refine (order_walk w A c l0 HR.out.1 HR.out.2.1 HR.out.2.2.1.1).mono ?_
  rintro e w1 ⟨v, ba, xa, rfl, hb1, ho⟩
  have HB1 := Lib.hid hb1
  rw [ordP_ref HR.out.2.2.1] at ho
  have hrow := (order_row ho).1
  rw [← HWL.out] at hrow
  obtain ⟨A1, c1, rfl, l1, _⟩ := row_reads hrow
  have HA := Lib.hid hrow
  clear hb1 ho hrow l1
  go_wp2_with fail
  refine (order_walk w1 A c l0 (Kd.C_below HR.out.1 HB1.out) HR.out.2.1 HR.out.2.2.1.1).mono ?_
  rintro e w2 ⟨v, bn, xn, rfl, hb2, ho⟩
  have HB2 := Lib.hid (below_step HB1.out hb2)
  have HS12 := Lib.hid (below_size hb2)
  have HA2 := Lib.hid (row_move HA.out fun g e => hb2.block g (own_lt HA.out e))
  rw [ordP_ref HR.out.2.2.1] at ho
  have hrow := (order_row ho).1
  rw [← HWL.out] at hrow
  obtain ⟨A2, c2, rfl, l2, _⟩ := row_reads hrow
  have HN := Lib.hid hrow
  clear hb2 ho hrow l2
  go_wp2_with fail
  refine (lives_walk w2).mono ?_
  rintro e w3 ⟨rfl, hb3⟩
  have HB3 := Lib.hid (below_step HB2.out hb3)
  have HA3 := Lib.hid (row_move HA2.out fun g e => hb3.block g (own_lt HA2.out e))
  have HN3 := Lib.hid (row_move HN.out fun g e => hb3.block g (own_lt HN.out e))
  have HB23 := Lib.hid hb3
  clear hb3
  go_wp2_with fail
  refine (order_walk w3 A c l0 (Kd.C_below HR.out.1 HB3.out) HR.out.2.1 HR.out.2.2.1.1).mono ?_
  rintro e w4 ⟨v, bb, xb, rfl, hb4, ho⟩
  have HB4 := Lib.hid (below_step HB3.out hb4)
  have HA4 := Lib.hid (row_move HA3.out fun g e => hb4.block g (own_lt HA3.out e))
  have HN4 := Lib.hid (row_move HN3.out fun g e => hb4.block g (own_lt HN3.out e))
  rw [ordP_ref HR.out.2.2.1] at ho
  have hrow := (order_row ho).1
  rw [← HWL.out] at hrow
  obtain ⟨A4, c4, rfl, l4, _⟩ := row_reads hrow
  have HC4 := Lib.hid hrow
  clear hb4 ho hrow l4
  go_wp2_with fail
  have rA := own_reads1 (h1 := fun _ => rfl) (xs := L) HA4.out
  have HRA := Lib.hid rA
  clear rA
  refine (fugueref00_EqInts.calls (L.length + 1) A1 c1 L Aw cw L true w4 HRA.out.1 HRA.out.2 (Kd.C_below HR.out.2.2.2.1 HB4.out) HR.out.2.2.2.2 HEQ.out).mono ?_
  rintro e w5 ⟨rfl, hd5⟩
  have HB45 := Lib.hid hd5.below
  clear hd5
  go_wp2_with fail
  have rN := own_reads1 (h1 := fun _ => rfl) (xs := L) HN4.out
  have HRN := Lib.hid rN
  clear rN
  refine (fugueref00_EqInts.calls (L.length + 1) A2 c2 L Aw cw L true w5 (Kd.C_below HRN.out.1 HB45.out) HRN.out.2 (Kd.C_below HR.out.2.2.2.1 (below_step HB4.out HB45.out)) HR.out.2.2.2.2 HEQ.out).mono ?_
  rintro e w6 ⟨rfl, hd6⟩
  have HB46 := Lib.hid (below_step HB45.out hd6.below)
  clear hd6
  go_wp2_with fail
  have rB := own_reads1 (h1 := fun _ => rfl) (xs := L) HC4.out
  have HRB := Lib.hid rB
  clear rB
  refine (fugueref00_EqInts.calls (L.length + 1) A4 c4 L Aw cw L true w6 (Kd.C_below HRB.out.1 HB46.out) HRB.out.2 (Kd.C_below HR.out.2.2.2.1 (below_step HB4.out HB46.out)) HR.out.2.2.2.2 HEQ.out).mono ?_
  rintro e w7 ⟨rfl, hd7⟩
  have HB47 := Lib.hid (below_step HB46.out hd7.below)
  clear hd7
  have HB7 := Lib.hid (below_step HB4.out HB47.out)
  have HA7 := Lib.hid (row_move HA4.out fun g e => HB47.out.block g (own_lt HA4.out e))
  have HN7 := Lib.hid (row_move HN4.out fun g e => HB47.out.block g (own_lt HN4.out e))
  have HC7 := Lib.hid (row_move HC4.out fun g e => HB47.out.block g (own_lt HC4.out e))
  have HLA := Lib.hid fun g (e : (Value.slice A1 L.length c1).ownBlock = some g) => own_lt HA.out e
  have HLN := Lib.hid fun g (e : (Value.slice A2 L.length c2).ownBlock = some g) => (HN7.out.lt g e).1
  have HLB : Hid (∀ g, (Value.slice A4 L.length c4).ownBlock = some g → w1.heap.size ≤ g) := Lib.hid fun g e => Nat.le_trans HS12.out (Nat.le_trans (below_size HB23.out) (HC7.out.lt g e).1)
  have HLA0 := Lib.hid fun g (e : (Value.slice A1 L.length c1).ownBlock = some g) => (HA7.out.lt g e).1
  have HNN : Hid (∀ g, (Value.slice A2 L.length c2).ownBlock = some g → (Value.slice A1 L.length c1).ownBlock ≠ some g) := Lib.hid fun g e q => absurd (HLA.out g q) (by have := HLN.out g e; omega)
  have HNB : Hid (∀ g, (Value.slice A4 L.length c4).ownBlock = some g → (Value.slice A1 L.length c1).ownBlock ≠ some g) := Lib.hid fun g e q => absurd (HLA.out g q) (by have := HLB.out g e; omega)
  go_wp2_with fail
  go_loopw [15, 16] (fun s15 s16 wr => ∃ k : Nat, k ≤ 64 ∧ s16 = .int .i64 k ∧ FarInv w.heap.size w7 wr L.length (L ++ marksD (-24) k) (.slice A1 L.length c1) s15) (fun _ s16 _ => 64 - (intOf s16).toNat)
  case atStart => exact ⟨0, Nat.zero_le _, rfl, by have := FarInv.start HA7.out; simpa [marksD] using this⟩
  case round =>
    obtain ⟨k, hk, rfl, hF⟩ := hrel
    have hbw : w.heap.size ≤ wr.heap.size := Nat.le_trans (below_size HB7.out) hF.only.size
    obtain ⟨Af, cf, rfl⟩ := own_slice hF.row
    have hyl : (L ++ marksD (-24) k).length = L.length + k := by rw [List.length_append, marksD_len]
    have HF := Lib.hid hF
    have HYL := Lib.hid hyl
    have HBW := Lib.hid hbw
    clear hF hyl hbw
    by_cases hlt : k < 64
    · have hkD : decide ((k : Int) < 64) = true := decide_eq_true (by omega)
      have HRW := Lib.hid HF.out.row
      have HL47 : Hid (((L ++ marksD (-24) k).length + 1) * 8 ≤ 140737488355328) := Lib.hid (by rw [HYL.out]; omega)
      rw [HYL.out]
      have HXX : Hid (∀ u ∈ [Value.int .i64 ((-24 : Int) - (k : Int))], u.oneCell' = true) := Lib.hid (by simp [Value.oneCell'])
      go_wp2_with (at_builtin; refine app_two (W := wr) w.heap.size rfl (.tmp 66) (.tmp 69) 25 3 _ 1 8 rfl Try.underlying25 info3 rfl (by decide) (by decide) _ (L.length + k) (i64s (L ++ marksD (-24) k)) [.int .i64 ((-24 : Int) - (k : Int))] rfl rfl rfl HXX.out (by rw [← HYL.out]; exact HRW.out) HBW.out (by rw [← HYL.out]; exact HL47.out) ?_; intro v1 w8 ho8 ht8; have H8 := Lib.hid (And.intro ho8 ht8); clear ho8 ht8)
      go_roundw
      case rel =>
        refine ⟨k + 1, by omega, by go_num, ?_⟩
        rw [marksD_succ, ← List.append_assoc]
        have h8 := H8.out
        rw [← HYL.out] at h8
        exact HF.out.app (by rw [HYL.out]; omega) h8.1 h8.2
      case measure => simp [intOf]; omega
    · obtain rfl : k = 64 := by omega
      have HM0 := Lib.hid (marked_app (L := L) (z := -24))
      obtain ⟨ys0, hys0⟩ : ∃ ys0, ys0 = L ++ marksD (-24) 64 := ⟨_, rfl⟩
      rw [← hys0] at HF HM0 HYL ⊢
      rw [HYL.out]
      clear hys0 hk hlt HBW
      obtain ⟨vf, hvf⟩ : ∃ vf, vf = Value.slice Af (L.length + 64) cf := ⟨_, rfl⟩
      rw [HYL.out, ← hvf] at HF
      have HVF := Lib.hid hvf
      clear hvf
      go_wp2_with fail
      go_loopw [17] (fun s17 wr => ∃ (i : Nat) (ys : List Int), i ≤ L.length ∧ s17 = .int .i64 i ∧ Marked (-24) L.length ys ∧ FarInv w.heap.size w7 wr L.length ys (.slice A1 L.length c1) vf) (fun s17 _ => L.length - (intOf s17).toNat)
      case atStart => exact ⟨0, ys0, Nat.zero_le _, rfl, HM0.out, HF.out⟩
      case round =>
        obtain ⟨i, ys, hi, rfl, hM, hF⟩ := hrel
        have HMi := Lib.hid hM
        have HFi := Lib.hid hF
        clear hM hF
        by_cases hlt : i < L.length
        · have hiD : decide ((i : Int) < (L.length : Int)) = true := by simp; omega
          rcases HA7.out.2 with ⟨q, _⟩ | ⟨g, cap, cur0, q, _⟩
          · injection q with _ q2 _
            exact absurd hlt (by rw [q2]; omega)
          · injection q with q1 _ q3
            subst q1; subst q3
            obtain ⟨cur, hcur, hcl⟩ := HFi.out.alive g rfl
            obtain ⟨u0, hu0⟩ : ∃ u0, cur[i]? = some u0 := ⟨_, Array.getElem?_eq_getElem (by omega)⟩
            have x0 : wr.cell? ⟨g, i, none⟩ = some u0 := blk_cell hcur hu0
            have fz := blk_frozen hcur
            have HS := Lib.hid (HFi.out.store (i := i) (-23))
            clear hcur hcl hu0
            go_wp2_with fail
            go_roundw
            case rel => exact ⟨i + 1, _, by omega, by go_num, marked_set HMi.out hlt _ _, HS.out⟩
            case measure => simp [intOf]; omega
        · obtain rfl : i = L.length := by omega
          have hvf := HVF.out
          subst hvf
          have hfr := HFi.out.row
          rw [HMi.out.1] at hfr
          have hfr2 : wr.ownsRow w.heap.size 3 1 (.slice Af ys.length cf) ys.length (ys.map (Value.int .i64)) := by rw [HMi.out.1]; exact hfr
          have HRF := Lib.hid (own_reads1 (h1 := fun _ => rfl) (xs := ys) hfr2)
          have HBR := Lib.hid (HFi.out.below HB7.out HLA0.out)
          have HN8 := Lib.hid (HFi.out.keep HN7.out HNN.out)
          have HC8 := Lib.hid (HFi.out.keep HC7.out HNB.out)
          clear hfr hfr2
          go_wp2_with fail
          go_loop [18] (fun s18 => ∃ j : Nat, j ≤ 64 ∧ s18 = .int .i64 j) (fun s18 => 64 - (intOf s18).toNat)
          case atStart => exact ⟨0, Nat.zero_le _, rfl⟩
          case round =>
            obtain ⟨j, hj, rfl⟩ := hrel
            by_cases hjl : j < 64
            · have hjD : decide ((j : Int) < 64) = true := decide_eq_true (by omega)
              obtain ⟨af, hAf, x0⟩ := Kd.at_int (w := wr) HRF.out.1 ((L.length + j : Nat) : Int) (by omega) (by have := HMi.out.1; omega)
              subst hAf
              have hv : rd ys ((L.length + j : Nat) : Int) = -24 - (j : Int) := HMi.out.2 j hjl
              rw [hv] at x0
              simp only [Int.toNat_natCast] at x0
              clear hv
              have hsum : ((L.length : Int) + (j : Int)).toNat = L.length + j := by omega
              have hs0 : (0 : Int) ≤ (L.length : Int) + (j : Int) := by omega
              have hs1 : (L.length : Int) + (j : Int) < (L.length : Int) + 64 := by omega
              go_wp2_with fail
              go_round
              case rel => exact ⟨j + 1, by omega, by go_num⟩
              case measure => simp [intOf]; omega
            · obtain rfl : j = 64 := by omega
              go_wp2_with fail
              have rN := own_reads1 (h1 := fun _ => rfl) (xs := L) HN8.out
              have HRN2 := Lib.hid rN
              clear rN
              refine (fugueref00_EqInts.calls (L.length + 1) A2 c2 L Aw cw L true wr HRN2.out.1 HRN2.out.2 (Kd.C_below HR.out.2.2.2.1 HBR.out) HR.out.2.2.2.2 HEQ.out).mono ?_
              rintro e x1 ⟨rfl, hd1⟩
              have HX1 := Lib.hid hd1.below
              clear hd1
              go_wp2_with fail
              have rB := own_reads1 (h1 := fun _ => rfl) (xs := L) HC8.out
              have HRB2 := Lib.hid rB
              clear rB
              refine (fugueref00_EqInts.calls (L.length + 1) A4 c4 L Aw cw L true x1 (Kd.C_below HRB2.out.1 HX1.out) HRB2.out.2 (Kd.C_below HR.out.2.2.2.1 (below_step HBR.out HX1.out)) HR.out.2.2.2.2 HEQ.out).mono ?_
              rintro e x2 ⟨rfl, hd2⟩
              have HX2 := Lib.hid (below_step HX1.out hd2.below)
              clear hd2
              go_wp2_with fail
              refine (order_walk x2 A c l0 (Kd.C_below HR.out.1 (below_step HBR.out HX2.out)) HR.out.2.1 HR.out.2.2.1.1).mono ?_
              rintro e x3 ⟨v, bz, xz, rfl, hb3, ho⟩
              have HX3 := Lib.hid (below_step HX2.out hb3)
              rw [ordP_ref HR.out.2.2.1] at ho
              have hrow := (order_row ho).1
              rw [← HWL.out] at hrow
              obtain ⟨A9, c9, rfl, l9, k9⟩ := row_reads hrow
              have HC9 := Lib.hid (And.intro l9 k9)
              clear hb3 ho hrow l9 k9
              go_wp2_with fail
              refine (fugueref00_EqInts.calls (L.length + 1) A9 c9 L Aw cw L true x3 HC9.out.2 HC9.out.1 (Kd.C_below HR.out.2.2.2.1 (below_step HBR.out HX3.out)) HR.out.2.2.2.2 HEQ.out).mono ?_
              rintro e x4 ⟨rfl, hd4⟩
              have HX4 := Lib.hid (below_step HX3.out hd4.below)
              clear hd4
              go_wp2_with fail
              refine (fugueref00_EqInts.calls (L.length + 1) A2 c2 L Aw cw L true x4 (Kd.C_below HRN2.out.1 HX4.out) HRN2.out.2 (Kd.C_below HR.out.2.2.2.1 (below_step HBR.out HX4.out)) HR.out.2.2.2.2 HEQ.out).mono ?_
              rintro e x5 ⟨rfl, hd5⟩
              have HX5 := Lib.hid (below_step HX4.out hd5.below)
              clear hd5
              go_wp2_with fail
              refine (fugueref00_EqInts.calls (L.length + 1) A4 c4 L Aw cw L true x5 (Kd.C_below HRB2.out.1 HX5.out) HRB2.out.2 (Kd.C_below HR.out.2.2.2.1 (below_step HBR.out HX5.out)) HR.out.2.2.2.2 HEQ.out).mono ?_
              rintro e x6 ⟨rfl, hd6⟩
              have HX6 := Lib.hid (below_step HX5.out hd6.below)
              clear hd6
              go_wp2_with fail
              go_ret
              exact ⟨rfl, below_step HBR.out HX6.out⟩
abbrev momV (m : S45) (A7 : Option Addr) (c7 : Nat) (A8 : Option Addr) (c8 : Nat) : Value :=
  .agg #[.int .i64 m.f0, .bool m.f1, .int .i64 m.f2.f0, .int .i64 m.f2.f1, .string m.f2.f2, .bool m.f3.f0, .string m.f3.f1, .slice A7 m.f3.f2.length c7, .slice A8 m.f3.f3.length c8]
structure MomIn (w : World) (m : S45) (A7 : Option Addr) (c7 : Nat) (A8 : Option Addr) (c8 : Nat) : Prop where
  l7 : m.f3.f2.length ≤ c7
  g7 : (Kd.int .i64).C w A7 m.f3.f2.length m.f3.f2
  l8 : m.f3.f3.length ≤ c8
  g8 : Kd.string.C w A8 m.f3.f3.length m.f3.f3
theorem MomIn.below {w w1 : World} {m : S45} {A7 : Option Addr} {c7 : Nat} {A8 : Option Addr} {c8 : Nat} (h : MomIn w m A7 c7 A8 c8) (hb : Below w.heap.size w w1) : MomIn w1 m A7 c7 A8 c8 := ⟨h.l7, Kd.C_below h.g7 hb, h.l8, Kd.C_below h.g8 hb⟩
theorem eqreply_same (r : S43) (hl : r.f2.length ≤ 9223372036854775806) (hv : r.f3.length ≤ 9223372036854775806) : fugueref00_EqReply.f (r.f2.length + r.f3.length + 1) r.f0 r.f1 r.f2 r.f3 r.f0 r.f1 r.f2 r.f3 = some true := by
  have e1 : fugueref00_EqInts.f (r.f2.length + r.f3.length + 1) r.f2 r.f2 = some true := by
    unfold fugueref00_EqInts.f
    rw [if_pos (by rfl)]
    obtain ⟨b, h1, h2⟩ := eqints_loop r.f2 r.f2 rfl hl (r.f2.length + r.f3.length + 1) 0 (Nat.zero_le _) (by omega)
    obtain rfl : b = true := h2.2 fun j _ _ => rfl
    exact h1
  have e2 : fugueref00_EqStrings.f (r.f2.length + r.f3.length + 1) r.f3 r.f3 = some true := by
    unfold fugueref00_EqStrings.f
    rw [if_pos (by rfl)]
    obtain ⟨b, h1, h2⟩ := eqstrs_loop r.f3 r.f3 rfl hv (r.f2.length + r.f3.length + 1) 0 (Nat.zero_le _) (by omega)
    obtain rfl : b = true := h2.2 fun j _ _ => rfl
    exact h1
  unfold fugueref00_EqReply.f
  rw [if_pos (beq_self_eq_true _), if_pos rfl, e1, Option.bind_some, if_pos rfl, e2]
  first | rfl | simp
theorem str_same (s : ByteArray) : (s.toList == s.toList) = true := str_eq.2 rfl
set_option maxRecDepth 100000 in
set_option maxHeartbeats 2000000 in
theorem eqmoment_calls (w : World) (m : S45) (A7 : Option Addr) (c7 : Nat) (A8 : Option Addr) (c8 : Nat) (ha : MomIn w m A7 c7 A8 c8) (B7 : Option Addr) (d7 : Nat) (B8 : Option Addr) (d8 : Nat) (hb : MomIn w m B7 d7 B8 d8) (hl : m.f3.f2.length ≤ 9223372036854775806) (hv : m.f3.f3.length ≤ 9223372036854775806) :
    Calls Try.prog 56 #[momV m A7 c7 A8 c8, momV m B7 d7 B8 d8] w fun e w' => e = .returned (.bool true) ∧ Below w.heap.size w w' := by
  unfold momV
  have hu := Try.underlying45
  have hu3 := Try.underlying40
  have hu4 := Try.underlying43
  have HA := Lib.hid ha
  have HB := Lib.hid hb
  have HR := Lib.hid (eqreply_same m.f3 hl hv)
  have hq := eqA40
  have hs := str_same m.f2.f2
  have b0 : (m.f0 == m.f0) = true := beq_self_eq_true _
  have b1 : (m.f2.f0 == m.f2.f0) = true := beq_self_eq_true _
  have b2 : (m.f2.f1 == m.f2.f1) = true := beq_self_eq_true _
  have b3 : (m.f1 == m.f1) = true := beq_self_eq_true _
  clear ha hb hl hv
  go_enter Try.func56, Try.ntmps56
  go_wp2_with fail
  refine (fugueref00_EqReply.calls (m.f3.f2.length + m.f3.f3.length + 1) m.f3.f0 m.f3.f1 A7 c7 m.f3.f2 A8 c8 m.f3.f3 m.f3.f0 m.f3.f1 B7 d7 m.f3.f2 B8 d8 m.f3.f3 true _ (Kd.C_below HA.out.g7 (below_alloc (below_alloc (Below.refl _ _) _) _)) HA.out.l7 (Kd.C_below HA.out.g8 (below_alloc (below_alloc (Below.refl _ _) _) _)) HA.out.l8 (Kd.C_below HB.out.g7 (below_alloc (below_alloc (Below.refl _ _) _) _)) HB.out.l7 (Kd.C_below HB.out.g8 (below_alloc (below_alloc (Below.refl _ _) _) _)) HB.out.l8 HR.out).mono ?_
  rintro e w1 ⟨rfl, hb⟩
  have HB1 := Lib.hid (below_step (below_alloc (below_alloc (Below.refl w.heap.size w) _) _) hb)
  clear hb
  go_wp2_with fail
  go_ret
  exact ⟨rfl, HB1.out⟩
set_option maxRecDepth 100000 in
set_option maxHeartbeats 2000000 in
theorem eqhist_walk (w : World) (A : Option Addr) (c : Nat) (B : Option Addr) (d : Nat) (l0 : List S45) (hr : Kd.C k45 w A l0.length l0) (hb : Kd.C k45 w B l0.length l0) (hs : ShortH l0) :
    Calls Try.prog 39 #[.slice A l0.length c, .slice B l0.length d] w fun e w' => e = .returned (.bool true) ∧ Below w.heap.size w w' := by
  have HR := Lib.hid (And.intro hr (And.intro hb hs))
  have hl : l0.length ≤ 2147483647 := hs.1
  clear hr hb hs
  go_enter Try.func39, Try.ntmps39
  go_wp2_with fail
  go_loopw [5] (fun s5 wr => ∃ i : Nat, i ≤ l0.length ∧ s5 = .int .i64 i ∧ Below w.heap.size w wr) (fun s5 _ => l0.length - (intOf s5).toNat)
  case atStart => exact ⟨0, Nat.zero_le _, rfl, Below.refl _ _⟩
  case round =>
    obtain ⟨i, hi, rfl, hB⟩ := hrel
    have HB := Lib.hid hB
    clear hB
    by_cases hlt : i < l0.length
    · have hlD : decide ((i : Int) < (l0.length : Int)) = true := by simp; omega
      obtain ⟨ac, E7, e7, E8, e8, hA3, q0, q1, q2, q3, q4, q5, q6, q7, q8, l7, g7, l8, g8⟩ := at_T45 (w := wr) (Kd.C_below HR.out.1 HB.out) i (by omega) (by omega)
      subst hA3
      obtain ⟨bc, F7, f7, F8, f8, hB3, z0, z1, z2, z3, z4, z5, z6, z7, z8, m7, j7, m8, j8⟩ := at_T45 (w := wr) (Kd.C_below HR.out.2.1 HB.out) i (by omega) (by omega)
      subst hB3
      simp only [Int.toNat_natCast] at q0 q1 q2 q3 q4 q5 q6 q7 q8 z0 z1 z2 z3 z4 z5 z6 z7 z8
      have HE := fun (W : World) (h : Below wr.heap.size wr W) => eqmoment_calls W (rd_T45 l0 (i : Nat)) E7 e7 E8 e8 (MomIn.below ⟨l7, g7, l8, g8⟩ h) F7 f7 F8 f8 (MomIn.below ⟨m7, j7, m8, j8⟩ h) (by have := (HR.out.2.2.2 i hlt).1; omega) (by have := (HR.out.2.2.2 i hlt).2; omega)
      unfold momV at HE
      have HE := Lib.hid HE
      clear l7 g7 l8 g8 m7 j7 m8 j8
      go_wp2_with fail
      refine wp_region_still_tail 8 (by kernel_rfl) (by kernel_rfl) ?_
      simp only [List.take_succ_cons, List.take_zero, List.drop_succ_cons, List.drop_zero]
      repeat still_step
      refine wpStill_nil ?_
      go_wp2_with fail
      refine (HE.out _ (below_drew1 (Below.refl _ _))).mono ?_
      rintro e w1 ⟨rfl, hb1⟩
      have HB1 := Lib.hid (below_step HB.out ((below_drew1 (Below.refl wr.heap.size wr)).trans hb1))
      clear hb1 q0 q1 q2 q3 q4 q5 q6 q7 q8 z0 z1 z2 z3 z4 z5 z6 z7 z8
      go_wp2_with fail
      go_roundw
      case rel => exact ⟨i + 1, by omega, by go_num, HB1.out⟩
      case measure => simp [intOf]; omega
    · obtain rfl : i = l0.length := by omega
      go_wp2_with fail
      go_ret
      exact ⟨rfl, HB.out⟩
def spareS : ByteArray := ⟨#[115, 112, 97, 114, 101]⟩
def intsM (l : List Int) : List Int := l ++ marksD (-21) 64
def strsM (l : List ByteArray) : List ByteArray := l ++ List.replicate 64 spareS
def IntsM (w : World) (v : Value) (l : List Int) : Prop := ∃ g c, v = .slice (some ⟨g, 0, none⟩) l.length c ∧ w.ownsRow 0 3 1 (.slice (some ⟨g, 0, none⟩) (l.length + 64) c) (l.length + 64) (i64s (intsM l))
def StrsM (w : World) (v : Value) (l : List ByteArray) : Prop := ∃ g c, v = .slice (some ⟨g, 0, none⟩) l.length c ∧ w.ownsRow 0 9 1 (.slice (some ⟨g, 0, none⟩) (l.length + 64) c) (l.length + 64) (strsV (strsM l))
def rowV (m : S45) (v7 v8 : Value) : List Value := [.int .i64 m.f0, .bool m.f1, .int .i64 m.f2.f0, .int .i64 m.f2.f1, .string m.f2.f2, .bool m.f3.f0, .string m.f3.f1, v7, v8]
def SpK (w : World) (m : S45) (r : List Value) : Prop := ∃ v7 v8, r = rowV m v7 v8 ∧ IntsM w v7 m.f3.f2 ∧ StrsM w v8 m.f3.f3
def markR (j : Nat) : List Value := [.int .i64 (-22 - (j : Int)), .bool false, .int .i64 0, .int .i64 0, .string ⟨#[]⟩, .bool false, .string ⟨#[]⟩, .slice none 0 0, .slice none 0 0]
abbrev OutRow (w : World) (base : Nat) (v : Value) (rows : List (List Value)) : Prop := OwnRow (fun (r : List Value) cs => cs = r) 45 9 w base v rows
def KeepsIS (w w' : World) : Prop := ∀ (b : Nat) (cells : Array Value) (t : TypeId), w.heap[b]? = some (.cells cells t (0, 0)) → (t = 3 ∨ t = 9) → w'.heap[b]? = w.heap[b]?
theorem IntsM.keep {w w' : World} {v : Value} {l : List Int} (h : IntsM w v l) (hk : KeepsIS w w') : IntsM w' v l := by
  obtain ⟨g, c, rfl, h⟩ := h
  refine ⟨g, c, rfl, row_move h fun b e => ?_⟩
  obtain ⟨cells, hc⟩ := own_typed h b e
  exact hk b cells _ hc (.inl rfl)
theorem StrsM.keep {w w' : World} {v : Value} {l : List ByteArray} (h : StrsM w v l) (hk : KeepsIS w w') : StrsM w' v l := by
  obtain ⟨g, c, rfl, h⟩ := h
  refine ⟨g, c, rfl, row_move h fun b e => ?_⟩
  obtain ⟨cells, hc⟩ := own_typed h b e
  exact hk b cells _ hc (.inr rfl)
theorem SpK.keep {w w' : World} {m : S45} {r : List Value} (h : SpK w m r) (hk : KeepsIS w w') : SpK w' m r := by
  obtain ⟨v7, v8, h1, h2, h3⟩ := h
  exact ⟨v7, v8, h1, h2.keep hk, h3.keep hk⟩
theorem KeepsIS.below {w w' : World} (h : Below w.heap.size w w') : KeepsIS w w' := fun b _ _ hb _ => h.block b (blk_lt hb)
theorem KeepsIS.trans {w w1 w2 : World} (h : KeepsIS w w1) (k : KeepsIS w1 w2) : KeepsIS w w2 := fun b cells t hb ht => (k b cells t ((h b cells t hb ht).trans hb) ht).trans (h b cells t hb ht)
theorem KeepsIS.set {w : World} {g : Nat} {cells0 : Array Value} (hg : w.heap[g]? = some (.cells cells0 45 (0, 0))) (i : Nat) (u : Value) : KeepsIS w (w.setCell ⟨g, i, none⟩ u) := fun b cells t hb ht => Below.heap_setCell w ⟨g, i, none⟩ u b (by
  rintro rfl
  rw [hg] at hb
  injection hb with hb
  injection hb with _ hb _
  rcases ht with rfl | rfl
  · exact absurd hb (by decide)
  · exact absurd hb (by decide))
theorem KeepsIS.grown {w w' : World} {base n size : Nat} {v : Value} {xs : List Value} (ho : w.ownsRow base 45 size v n xs) (hg : w.grownBy w' v.ownBlock) : KeepsIS w w' := fun b cells t hb ht => hg.block b (blk_lt hb) (by
  intro e
  obtain ⟨c2, h2⟩ := own_typed ho b e.symm
  rw [h2] at hb
  injection hb with hb
  injection hb with _ hb _
  rcases ht with rfl | rfl
  · exact absurd hb (by decide)
  · exact absurd hb (by decide))
def SpRows (w : World) (l0 : List S45) (rows : List (List Value)) : Prop := ∀ (j : Nat) m r, l0[j]? = some m → rows[j]? = some r → SpK w m r
theorem SpRows.keep {w w' : World} {l0 : List S45} {rows : List (List Value)} (h : SpRows w l0 rows) (hk : KeepsIS w w') : SpRows w' l0 rows := fun j m r h1 h2 => (h j m r h1 h2).keep hk
structure Spared (base : Nat) (w : World) (g C : Nat) (l0 : List S45) : Prop where
  row : ∃ rows : List (List Value), rows.length = l0.length + 64 ∧ SpRows w l0 rows ∧ (∀ j, j < 64 → rows[l0.length + j]? = some (markR j)) ∧ OutRow w base (.slice (some ⟨g, 0, none⟩) (l0.length + 64) C) rows
theorem OutRow.below {w w' : World} {base : Nat} {v : Value} {rows : List (List Value)} (h : OutRow w base v rows) (hb : Below w.heap.size w w') : OutRow w' base v rows := OwnRow.below h hb
theorem Spared.below {base : Nat} {w w' : World} {g C : Nat} {l0 : List S45} (h : Spared base w g C l0) (hb : Below w.heap.size w w') : Spared base w' g C l0 := by
  obtain ⟨rows, h1, h2, h3, h4⟩ := h.row
  exact ⟨rows, h1, h2.keep (KeepsIS.below hb), h3, h4.below hb⟩
theorem Spared.cap {base : Nat} {w : World} {g C : Nat} {l0 : List S45} (h : Spared base w g C l0) : l0.length + 64 ≤ C := by
  obtain ⟨rows, _, _, _, inner, h4, _⟩ := h.row
  rcases h4.2 with ⟨q, _⟩ | ⟨g', cap, cur, q, _, _, hn, _⟩
  · cases q
  · injection q with _ _ q3
    omega
theorem outrow_cell {w : World} {base g n C : Nat} {rows : List (List Value)} (h : OutRow w base (.slice (some ⟨g, 0, none⟩) n C) rows) {i : Nat} {r : List Value} (hi : rows[i]? = some r) {j : Nat} {u : Value} (hj : r[j]? = some u) (hl : j < 9) : w.cell? ⟨g, i * 9 + j, none⟩ = some u := by
  obtain ⟨inner, ho, hr⟩ := h
  have h1 := hr.2 i r hi
  have h2 : inner[i * 9 + j]? = some u := by
    have : ((inner.drop (i * 9)).take 9)[j]? = some u := by rw [h1]; exact hj
    rw [List.getElem?_take, if_pos hl, List.getElem?_drop] at this
    exact this
  rcases ho.2 with ⟨q, _⟩ | ⟨g', cap, cur, q, _, hh, _, _, _, ht⟩
  · cases q
  · injection q with q1 _ _
    cases q1
    rw [← ht, List.getElem?_take] at h2
    split at h2
    · rw [Array.getElem?_toList] at h2
      exact blk_cell hh h2
    · cases h2
theorem intsM_reads {w : World} {v : Value} {l : List Int} (h : IntsM w v l) : ∃ A c, v = .slice A l.length c ∧ l.length ≤ c ∧ (Kd.int .i64).C w A l.length l := by
  obtain ⟨g, c, rfl, h⟩ := h
  have h1 : w.ownsRow 0 3 1 (.slice (some ⟨g, 0, none⟩) (intsM l).length c) (intsM l).length ((intsM l).map (Value.int .i64)) := by
    have e : (intsM l).length = l.length + 64 := by unfold intsM; rw [List.length_append, marksD_len]
    rw [e]
    exact h
  have e : (intsM l).length = l.length + 64 := by unfold intsM; rw [List.length_append, marksD_len]
  obtain ⟨k1, k2⟩ := own_reads1 (h1 := fun _ => rfl) h1
  refine ⟨_, _, rfl, by omega, rfl, by have := k1.2.1; omega, fun h0 => ?_⟩
  obtain ⟨ad, e1, hc⟩ := k1.2.2 (by omega)
  refine ⟨ad, e1, fun j p hp => hc j p ?_⟩
  unfold intsM
  rw [List.getElem?_append_left (List.getElem?_eq_some_iff.1 hp).1]
  exact hp
theorem strsM_reads {w : World} {v : Value} {l : List ByteArray} (h : StrsM w v l) : ∃ A c, v = .slice A l.length c ∧ l.length ≤ c ∧ Kd.string.C w A l.length l := by
  obtain ⟨g, c, rfl, h⟩ := h
  have e : (strsM l).length = l.length + 64 := by unfold strsM; rw [List.length_append, List.length_replicate]
  have h1 : w.ownsRow 0 9 1 (.slice (some ⟨g, 0, none⟩) (strsM l).length c) (strsM l).length ((strsM l).map Value.string) := by
    rw [e]
    exact h
  obtain ⟨k1, k2⟩ := own_reads1 (h1 := fun _ => rfl) h1
  refine ⟨_, _, rfl, by omega, rfl, by have := k1.2.1; omega, fun h0 => ?_⟩
  obtain ⟨ad, e1, hc⟩ := k1.2.2 (by omega)
  refine ⟨ad, e1, fun j p hp => hc j p ?_⟩
  unfold strsM
  rw [List.getElem?_append_left (List.getElem?_eq_some_iff.1 hp).1]
  exact hp
theorem spk_kind {w : World} {m : S45} {r : List Value} (h : SpK w m r) : k45.K w m r := by
  obtain ⟨v7, v8, rfl, h7, h8⟩ := h
  obtain ⟨A7, c7, rfl, l7, g7⟩ := intsM_reads h7
  obtain ⟨A8, c8, rfl, l8, g8⟩ := strsM_reads h8
  exact k45_mk w m l7 g7 l8 g8
theorem Spared.reads {base : Nat} {w : World} {g C : Nat} {l0 : List S45} (h : Spared base w g C l0) (hl : l0.length ≤ 2147483647) : Kd.C k45 w (some ⟨g, 0, none⟩) l0.length l0 := by
  obtain ⟨rows, h1, h2, h3, h4⟩ := h.row
  refine ⟨rfl, by omega, fun _ => ⟨⟨g, 0, none⟩, rfl, fun j p hp => ?_⟩⟩
  have hj := (List.getElem?_eq_some_iff.1 hp).1
  obtain ⟨r, hr⟩ : ∃ r, rows[j]? = some r := ⟨_, List.getElem?_eq_getElem (by omega)⟩
  have hk := h2 j p r hp hr
  have hlen : r.length = 9 := by obtain ⟨v7, v8, rfl, _⟩ := hk; rfl
  refine ⟨r, hlen, spk_kind hk, fun i u hu => ?_⟩
  have hi := (List.getElem?_eq_some_iff.1 hu).1
  rw [show k45.sz = 9 from rfl, Addr.add_lit, Nat.zero_add]
  exact outrow_cell h4 hr hu (by omega)
structure SpIn (wP W : World) (m : S45) (E7 : Option Addr) (e7 : Nat) (E8 : Option Addr) (e8 : Nat) (j : Nat) (vk vv : Value) : Prop where
  keys : W.ownsRow wP.heap.size 3 1 vk (m.f3.f2.length + j) (i64s (m.f3.f2 ++ marksD (-21) j))
  vals : W.ownsRow wP.heap.size 9 1 vv (m.f3.f3.length + j) (strsV (m.f3.f3 ++ List.replicate j spareS))
  box : W.heap[wP.heap.size]? = some (.cells (rowV m (.slice E7 m.f3.f2.length e7) (.slice E8 m.f3.f3.length e8)).toArray 45 (0, 0))
  below : Below wP.heap.size wP W
theorem typed_ne {W : World} {base n b size : Nat} {e t : TypeId} {v : Value} {xs : List Value} (h : W.ownsRow base e size v n xs) {cells : Array Value} (hb : W.heap[b]? = some (.cells cells t (0, 0))) (hne : e ≠ t) : some b ≠ v.ownBlock := by
  intro e2
  obtain ⟨c2, h2⟩ := own_typed h b e2.symm
  rw [hb] at h2
  injection h2 with h2
  injection h2 with _ h2 _
  exact hne h2.symm
theorem row_kept {W W1 : World} {base n base2 n2 s2 : Nat} {e e2 : TypeId} {v v2 : Value} {xs ys : List Value} (h : W.ownsRow base e 1 v n xs) (h2 : W.ownsRow base2 e2 s2 v2 n2 ys) (hne : e2 ≠ e) (hg : W.grownBy W1 v2.ownBlock) : W1.ownsRow base e 1 v n xs :=
  row_move h fun b q => by
    obtain ⟨cells, hc⟩ := own_typed h b q
    exact hg.block b (blk_lt hc) (typed_ne h2 hc hne)
theorem SpIn.keysApp {wP W W1 : World} {m : S45} {E7 : Option Addr} {e7 : Nat} {E8 : Option Addr} {e8 j : Nat} {vk vv v1 : Value} (h : SpIn wP W m E7 e7 E8 e8 j vk vv) (ho : W1.ownsRow wP.heap.size 3 1 v1 (m.f3.f2.length + j + 1) (i64s (m.f3.f2 ++ marksD (-21) j) ++ [.int .i64 (-21 - (j : Int))])) (ht : AppTwo W W1 vk v1) :
    W1.ownsRow wP.heap.size 3 1 v1 (m.f3.f2.length + (j + 1)) (i64s (m.f3.f2 ++ marksD (-21) (j + 1))) ∧ W1.ownsRow wP.heap.size 9 1 vv (m.f3.f3.length + j) (strsV (m.f3.f3 ++ List.replicate j spareS)) ∧ W1.heap[wP.heap.size]? = some (.cells (rowV m (.slice E7 m.f3.f2.length e7) (.slice E8 m.f3.f3.length e8)).toArray 45 (0, 0)) ∧ Below wP.heap.size wP W1 := by
  refine ⟨?_, row_kept h.vals h.keys (by decide) ht.only, (ht.only.block _ (blk_lt h.box) (typed_ne h.keys h.box (by decide))).trans h.box, h.below.grown ht.only (below_size h.below) (own_base h.keys)⟩
  rw [marksD_succ, ← List.append_assoc]
  rw [i64s, List.map_append]
  exact ho
theorem SpIn.valsApp {wP W W1 : World} {m : S45} {E7 : Option Addr} {e7 : Nat} {E8 : Option Addr} {e8 j : Nat} {vk vv v1 : Value} (hv : W.ownsRow wP.heap.size 9 1 vv (m.f3.f3.length + j) (strsV (m.f3.f3 ++ List.replicate j spareS))) (hx : W.heap[wP.heap.size]? = some (.cells (rowV m (.slice E7 m.f3.f2.length e7) (.slice E8 m.f3.f3.length e8)).toArray 45 (0, 0))) (hb : Below wP.heap.size wP W) (hk : W.ownsRow wP.heap.size 3 1 vk (m.f3.f2.length + (j + 1)) (i64s (m.f3.f2 ++ marksD (-21) (j + 1)))) (ho : W1.ownsRow wP.heap.size 9 1 v1 (m.f3.f3.length + j + 1) (strsV (m.f3.f3 ++ List.replicate j spareS) ++ [.string spareS])) (ht : AppTwo W W1 vv v1) :
    SpIn wP W1 m E7 e7 E8 e8 (j + 1) vk v1 := by
  refine ⟨row_kept hk hv (by decide) ht.only, ?_, (ht.only.block _ (blk_lt hx) (typed_ne hv hx (by decide))).trans hx, hb.grown ht.only (below_size hb) (own_base hv)⟩
  rw [List.replicate_succ', ← List.append_assoc]
  rw [strsV, List.map_append]
  exact ho
theorem own_some {w : World} {base n c : Nat} {e : TypeId} {A : Option Addr} {xs : List Value} (h : w.ownsRow base e 1 (.slice A n c) n xs) (hn : 0 < n) : ∃ g, A = some ⟨g, 0, none⟩ ∧ n ≤ c ∧ base ≤ g := by
  rcases h.2 with ⟨q, _⟩ | ⟨g, cap, cur, q, hb, _, hc, _⟩
  · injection q with _ q2 _
    omega
  · injection q with q1 _ q3
    exact ⟨g, q1, by omega, hb⟩
theorem infoMoment : (Try.prog.info? 45).map (fun i => (i.zero, i.size, i.bytes)) = some (some (.agg #[(.int .i64 0), (.bool false), (.int .i64 0), (.int .i64 0), (.string ⟨#[]⟩), (.bool false), (.string ⟨#[]⟩), (.slice none 0 0), (.slice none 0 0)]), 9, 120) := by kernel_rfl
theorem out_put {wP W W2 w3 : World} {base gk ck gv cv : Nat} {l0 : List S45} {m : S45} {E7 : Option Addr} {e7 : Nat} {E8 : Option Addr} {e8 : Nat} {rows : List (List Value)} (hsp : SpRows wP l0 rows) (hI : SpIn wP W m E7 e7 E8 e8 64 (.slice (some ⟨gk, 0, none⟩) (m.f3.f2.length + 64) ck) (.slice (some ⟨gv, 0, none⟩) (m.f3.f3.length + 64) cv))
    (hm : l0[rows.length]? = some m) (hW2 : W2 = (W.setCell ⟨wP.heap.size, 7, none⟩ (.slice (some ⟨gk, 0, none⟩) m.f3.f2.length ck)).setCell ⟨wP.heap.size, 8, none⟩ (.slice (some ⟨gv, 0, none⟩) m.f3.f3.length cv)) {vo : Value} {n : Nat} {xs : List Value} (ho : W2.ownsRow base 45 9 vo n xs) (hg : W2.grownBy w3 vo.ownBlock) :
    SpRows w3 l0 (rows ++ [rowV m (.slice (some ⟨gk, 0, none⟩) m.f3.f2.length ck) (.slice (some ⟨gv, 0, none⟩) m.f3.f3.length cv)]) := by
  have k1 : KeepsIS W W2 := by
    rw [hW2]
    exact (KeepsIS.set hI.box 7 _).trans (KeepsIS.set (blk_set hI.box 7 _) 8 _)
  have k2 := k1.trans (KeepsIS.grown ho hg)
  have k3 := (KeepsIS.below hI.below).trans k2
  intro j q r h1 h2
  rcases Nat.lt_or_ge j rows.length with a | a
  · rw [List.getElem?_append_left a] at h2
    exact (hsp j q r h1 h2).keep k3
  · rw [List.getElem?_append_right a] at h2
    have hj : j - rows.length = 0 := by
      rcases Nat.eq_zero_or_pos (j - rows.length) with z | z
      · exact z
      · rw [List.getElem?_eq_none (by simp; omega)] at h2; cases h2
    rw [hj] at h2
    obtain rfl := Option.some.inj h2
    obtain rfl : j = rows.length := by omega
    rw [hm] at h1
    obtain rfl := Option.some.inj h1
    refine ⟨_, _, rfl, IntsM.keep ⟨gk, ck, rfl, own_weaken hI.keys (Nat.zero_le _)⟩ k2, StrsM.keep ⟨gv, cv, rfl, own_weaken hI.vals (Nat.zero_le _)⟩ k2⟩
theorem strs_own {w : World} {base : Nat} {ok : Nat → Prop} {v : Value} {l : List ByteArray} (h : Kd.string.R 9 w base ok v l) : w.ownsRow base 9 1 v l.length (strsV l) := Kd.own_of_R h
theorem ints_own {w : World} {base : Nat} {ok : Nat → Prop} {v : Value} {l : List Int} (h : (Kd.int .i64).R 3 w base ok v l) : w.ownsRow base 3 1 v l.length (i64s l) := Kd.own_of_R h
set_option maxRecDepth 200000 in
set_option maxHeartbeats 8000000 in
theorem spare_walk (w : World) (A : Option Addr) (c : Nat) (l0 : List S45) (hr : Kd.C k45 w A l0.length l0) (hs : ShortH l0) :
    Calls Try.prog 17 #[.slice A l0.length c] w fun e w' => Below w.heap.size w w' ∧ ∃ g C, e = .returned (.slice (some ⟨g, 0, none⟩) l0.length C) ∧ Spared w.heap.size w' g C l0 := by
  have HR := Lib.hid (And.intro hr hs)
  have hl : l0.length ≤ 2147483647 := hs.1
  clear hr hs
  have hu := Try.underlying45
  have hu3 := Try.underlying40
  have hu4 := Try.underlying43
  go_enter Try.func17, Try.ntmps17
  go_wp2_with fail
  go_loopw [3, 4] (fun s3 s4 wr => ∃ (i : Nat) (rows : List (List Value)), i ≤ l0.length ∧ s4 = .int .i64 i ∧ rows.length = i ∧ SpRows wr l0 rows ∧ OutRow wr w.heap.size s3 rows ∧ Below w.heap.size w wr) (fun _ s4 _ => l0.length - (intOf s4).toNat)
  case atStart => exact ⟨0, [], Nat.zero_le _, rfl, rfl, (fun j m r _ h => by cases h), OwnRow.none_ _ _ _ _ _, Below.refl _ _⟩
  case round =>
    obtain ⟨i, rows, hi, rfl, hrl, hsp, hout, hB⟩ := hrel
    have HB := Lib.hid hB
    subst hrl
    obtain ⟨Ao, co, rfl, _⟩ := hout.slice_
    have HO : Hid (rows.length = rows.length ∧ SpRows wr l0 rows ∧ OutRow wr w.heap.size (.slice Ao rows.length co) rows) := Lib.hid ⟨rfl, hsp, hout⟩
    obtain ⟨i, hri⟩ : ∃ i, i = rows.length := ⟨_, rfl⟩
    rw [← hri] at hi HO ⊢
    have HRI := Lib.hid hri
    have hi2 : i ≤ 2147483647 := by omega
    clear hB hsp hout hri
    by_cases hlt : i < l0.length
    · have hlD : decide ((i : Int) < (l0.length : Int)) = true := by simp; omega
      obtain ⟨wP, hwP⟩ : ∃ wP, wP = wr := ⟨_, rfl⟩
      subst hwP
      obtain ⟨ac, E7, e7, E8, e8, hA3, q0, q1, q2, q3, q4, q5, q6, q7, q8, l7, g7, l8, g8⟩ := at_T45 (w := wP) (Kd.C_below HR.out.1 HB.out) i (by omega) (by omega)
      subst hA3
      obtain ⟨m, hm⟩ : ∃ m, m = rd_T45 l0 (i : Nat) := ⟨_, rfl⟩
      rw [← hm] at q0 q1 q2 q3 q4 q5 q6 q7 q8 l7 g7 l8 g8
      simp only [Int.toNat_natCast] at q0 q1 q2 q3 q4 q5 q6 q7 q8
      have h47 : m.f3.f2.length ≤ 2147483647 ∧ m.f3.f3.length ≤ 2147483647 := by rw [hm]; exact HR.out.2.2 i hlt
      have HM := Lib.hid (And.intro hm h47)
      have HG := Lib.hid (And.intro l7 (And.intro g7 (And.intro l8 g8)))
      clear hm h47 l7 g7 l8 g8
      go_wp2_with fail
      clear q0 q1 q2 q3 q4 q5 q6 q7 q8
      obtain ⟨W0, hW0⟩ : ∃ W0, W0 = wP.alloc (.cells (rowV m (.slice E7 m.f3.f2.length e7) (.slice E8 m.f3.f3.length e8)).toArray 45) := ⟨_, rfl⟩
      have hb0 : Below wP.heap.size wP W0 := by rw [hW0]; exact below_alloc (Below.refl _ _) _
      have hx0 : W0.heap[wP.heap.size]? = some (.cells (rowV m (.slice E7 m.f3.f2.length e7) (.slice E8 m.f3.f3.length e8)).toArray 45 (0, 0)) := by rw [hW0]; exact new_blk _
      have H0 := Lib.hid (And.intro hb0 hx0)
      have hcp := fugueref00_CopyInts.calls (m.f3.f2.length + 1) E7 e7 m.f3.f2 m.f3.f2 W0 (Kd.C_below HG.out.2.1 hb0) HG.out.1 (copyInts_some m.f3.f2 (by have := HM.out.2; omega))
      rw [hW0] at hcp
      clear hb0 hx0
      refine hcp.mono ?_
      clear hcp
      rintro e x1 ⟨vk, rfl, hk1, hb1⟩
      rw [← hW0] at hk1 hb1
      clear hW0
      have hx1 := blk_below H0.out.2 hb1
      have H1 := Lib.hid (And.intro (own_weaken (ints_own hk1) (below_size H0.out.1)) (And.intro hx1 (below_step H0.out.1 hb1)))
      obtain ⟨y0, y1, y2, y3, y4, y5, y6, y7, y8⟩ := box9 hx1
      clear hk1 hb1 hx1
      go_wp2_with fail
      clear y0 y1 y2 y3 y4 y5 y6 y7 y8
      refine (fugueref00_CopyStrings.calls (m.f3.f3.length + 1) E8 e8 m.f3.f3 m.f3.f3 x1 (Kd.C_below HG.out.2.2.2 H1.out.2.2) HG.out.2.2.1 (copyStrings_some m.f3.f3 (by have := HM.out.2; omega))).mono ?_
      rintro e x2 ⟨vv, rfl, hk2, hb2⟩
      have HI0 : Hid (SpIn wP x2 m E7 e7 E8 e8 0 vk vv) := Lib.hid ⟨by have := row_move H1.out.1 (W1 := x2) fun g e => hb2.block g (own_lt H1.out.1 e); simpa [marksD] using this, by have := own_weaken (strs_own hk2) (below_size H1.out.2.2); simpa using this, blk_below H1.out.2.1 hb2, below_step H1.out.2.2 hb2⟩
      clear hk2 hb2
      go_wp2_with fail
      go_loopw [8, 9, 10] (fun s8 s9 s10 W => ∃ j : Nat, j ≤ 64 ∧ s10 = .int .i64 j ∧ SpIn wP W m E7 e7 E8 e8 j s8 s9) (fun _ _ s10 _ => 64 - (intOf s10).toNat)
      case atStart => exact ⟨0, Nat.zero_le _, rfl, HI0.out⟩
      case round =>
        obtain ⟨j, hj, rfl, hI⟩ := hrel
        obtain ⟨A8, c8, rfl⟩ := own_slice hI.keys
        obtain ⟨A9, c9, rfl⟩ := own_slice hI.vals
        have HI := Lib.hid hI
        clear hI
        by_cases hjl : j < 64
        · have hjD : decide ((j : Int) < 64) = true := decide_eq_true (by omega)
          have HBS := Lib.hid (below_size HI.out.below)
          have HX1 : Hid (∀ u ∈ [Value.int .i64 ((-21 : Int) - (j : Int))], u.oneCell' = true) := Lib.hid (by simp [Value.oneCell'])
          have HX2 : Hid (∀ u ∈ [Value.string spareS], u.oneCell' = true) := Lib.hid (by simp [Value.oneCell'])
          have HL1 : Hid ((m.f3.f2.length + j + 1) * 8 ≤ 140737488355328) := Lib.hid (by have := HM.out.2; omega)
          have HL2 : Hid ((m.f3.f3.length + j + 1) * 16 ≤ 140737488355328) := Lib.hid (by have := HM.out.2; omega)
          go_wp2_with (first
            | (at_builtin; refine app_two (W := wr) wP.heap.size rfl (.tmp 42) (.tmp 45) 25 3 _ 1 8 rfl Try.underlying25 info3 rfl (by decide) (by decide) _ (m.f3.f2.length + j) (i64s (m.f3.f2 ++ marksD (-21) j)) [.int .i64 ((-21 : Int) - (j : Int))] rfl rfl rfl HX1.out HI.out.keys HBS.out HL1.out ?_; intro v1 x3 ho3 ht3; have H3 := Lib.hid (HI.out.keysApp ho3 ht3); clear ho3 ht3)
            | (at_builtin; refine app_two (W := x3) wP.heap.size rfl (.tmp 47) (.tmp 48) 41 9 _ 1 16 rfl Try.underlying41 info9 rfl (by decide) (by decide) _ (m.f3.f3.length + j) (strsV (m.f3.f3 ++ List.replicate j spareS)) [.string spareS] rfl rfl rfl HX2.out H3.out.2.1 (below_size H3.out.2.2.2) HL2.out ?_; intro v2 x4 ho4 ht4; have H4 := Lib.hid (SpIn.valsApp (j := j) H3.out.2.1 H3.out.2.2.1 H3.out.2.2.2 H3.out.1 ho4 ht4); clear ho4 ht4))
          go_roundw
          case rel => exact ⟨j + 1, by omega, by go_num, H4.out⟩
          case measure => simp [intOf]; omega
        · obtain rfl : j = 64 := by omega
          obtain ⟨gk, hgk, hck, hgkb⟩ := own_some HI.out.keys (by omega)
          obtain ⟨gv, hgv, hcv, hgvb⟩ := own_some HI.out.vals (by omega)
          subst hgk
          subst hgv
          obtain ⟨y0, y1, y2, y3, y4, y5, y6, y7, y8⟩ := box9 HI.out.box
          have fz := blk_frozen HI.out.box
          have n7 : (m.f3.f2.length : Int) ≤ (c8 : Int) := by omega
          have n8 : (m.f3.f3.length : Int) ≤ (c9 : Int) := by omega
          obtain ⟨W2, hW2⟩ : ∃ W2, W2 = (wr.setCell ⟨wP.heap.size, 7, none⟩ (.slice (some ⟨gk, 0, none⟩) m.f3.f2.length c8)).setCell ⟨wP.heap.size, 8, none⟩ (.slice (some ⟨gv, 0, none⟩) m.f3.f3.length c9) := ⟨_, rfl⟩
          have hsz2 : W2.heap.size = wr.heap.size := by rw [hW2]; simp [World.setCell]
          have hb2 : Below wP.heap.size wP W2 := by
            rw [hW2]
            exact HI.out.below.trans ((((Only.refl wr fun b => b = wP.heap.size).setCell (p := ⟨wP.heap.size, 7, none⟩) (.inl rfl) _).setCell (p := ⟨wP.heap.size, 8, none⟩) (.inl rfl) _).below (below_size HI.out.below) fun b e => Nat.le_of_eq e.symm)
          have HOR := Lib.hid (HO.out.2.2.below hb2)
          have HW2 := Lib.hid (And.intro hW2 (And.intro hb2 hsz2))
          have HBZ : Hid (w.heap.size ≤ W2.heap.size) := Lib.hid (Nat.le_trans (below_size HB.out) (below_size hb2))
          have HXS : Hid (Value.slice (some ⟨wr.heap.size, 0, none⟩) 1 1 = .slice (some ⟨W2.heap.size, 0, none⟩) 1 1) := Lib.hid (by rw [hsz2])
          have HL3 : Hid ((rows.length + 1) * 120 ≤ 140737488355328) := Lib.hid (by rw [← HRI.out]; omega)
          have HU : Hid (∀ u ∈ rowV m (.slice (some ⟨gk, 0, none⟩) m.f3.f2.length c8) (.slice (some ⟨gv, 0, none⟩) m.f3.f3.length c9), u.oneCell' = true) := Lib.hid (by intro u hu; simp [rowV] at hu; rcases hu with rfl | rfl | rfl | rfl | rfl | rfl | rfl | rfl | rfl <;> rfl)
          have HMI : Hid (l0[rows.length]? = some m) := Lib.hid (by rw [← HRI.out, HM.out.1, mo_at hlt])
          clear hsz2 hb2
          subst hW2
          go_wp2_with (at_builtin; go_must (refine OwnRow.append (R := fun (r : List Value) cs => cs = r) (w0 := (wr.setCell ⟨wP.heap.size, 7, none⟩ (.slice (some ⟨gk, 0, none⟩) m.f3.f2.length c8)).setCell ⟨wP.heap.size, 8, none⟩ (.slice (some ⟨gv, 0, none⟩) m.f3.f3.length c9)) w.heap.size rfl (.tmp 60) (.tmp 62) 22 45 _ 9 120 rfl Try.underlying22 infoMoment rfl (by decide) (by decide) (.slice Ao i co) rows (rowV m (.slice (some ⟨gk, 0, none⟩) m.f3.f2.length c8) (.slice (some ⟨gv, 0, none⟩) m.f3.f3.length c9)) (rowV m (.slice (some ⟨gk, 0, none⟩) m.f3.f2.length c8) (.slice (some ⟨gv, 0, none⟩) m.f3.f3.length c9)) rfl HXS.out rfl rfl HU.out HOR.out (Below.refl _ _) HBZ.out HL3.out ?_); intro v3 w5 hO5 hB5 hg5 hat5; have H5 := Lib.hid (And.intro hO5 (And.intro hB5 hg5)); clear hO5 hB5 hg5 hat5)
          go_roundw
          case rel =>
            obtain ⟨inn, hinn, _⟩ := HOR.out
            refine ⟨i + 1, rows ++ [rowV m (.slice (some ⟨gk, 0, none⟩) m.f3.f2.length c8) (.slice (some ⟨gv, 0, none⟩) m.f3.f3.length c9)], by omega, by go_num, by rw [List.length_append, List.length_singleton, HRI.out], out_put HO.out.2.1 HI.out HMI.out rfl hinn H5.out.2.2, H5.out.1, ?_⟩
            exact HB.out.trans ((HW2.out.2.1.mono (below_size HB.out)).trans H5.out.2.1)
          case measure => simp [intOf]; omega
    · obtain rfl : i = l0.length := by omega
      have HSP := Lib.hid HO.out.2.1
      have HL0 : Hid (rows.length = l0.length) := Lib.hid HRI.out.symm
      go_wp2_with fail
      go_loopw [3, 11] (fun s3 s11 W => ∃ (j : Nat) (Az : Option Addr) (cz : Nat), j ≤ 64 ∧ s11 = .int .i64 j ∧ s3 = .slice Az (l0.length + j) cz ∧ SpRows W l0 rows ∧ OutRow W w.heap.size (.slice Az (l0.length + j) cz) (rows ++ (List.range j).map markR) ∧ Below w.heap.size w W) (fun _ s11 _ => 64 - (intOf s11).toNat)
      case atStart => exact ⟨0, Ao, co, Nat.zero_le _, rfl, rfl, HSP.out, by have := HO.out.2.2; simpa using this, HB.out⟩
      case round =>
        obtain ⟨j, Az, cz, hj, rfl, rfl, hsp, hout, hB⟩ := hrel
        have H2 := Lib.hid (And.intro hsp (And.intro hout hB))
        clear hsp hout hB
        by_cases hjl : j < 64
        · have hjD : decide ((j : Int) < 64) = true := decide_eq_true (by omega)
          have HU : Hid (∀ u ∈ markR j, u.oneCell' = true) := Lib.hid (by intro u hu; simp [markR] at hu; rcases hu with rfl | rfl | rfl | rfl | rfl | rfl | rfl <;> rfl)
          have HLL : Hid ((rows ++ (List.range j).map markR).length = l0.length + j) := Lib.hid (by rw [List.length_append, HL0.out]; simp)
          have HL3 : Hid (((rows ++ (List.range j).map markR).length + 1) * 120 ≤ 140737488355328) := Lib.hid (by rw [HLL.out]; omega)
          go_wp2_with (at_builtin; go_must (refine OwnRow.append (R := fun (r : List Value) cs => cs = r) (w0 := wr) w.heap.size rfl (.tmp 68) (.tmp 72) 22 45 _ 9 120 rfl Try.underlying22 infoMoment rfl (by decide) (by decide) (.slice Az (l0.length + j) cz) (rows ++ (List.range j).map markR) (markR j) (markR j) rfl rfl rfl rfl HU.out H2.out.2.1 (Below.refl _ _) (below_size H2.out.2.2) HL3.out ?_); intro v3 w5 hO5 hB5 hg5 hat5; have H5 := Lib.hid (And.intro hO5 (And.intro hB5 hg5)); clear hO5 hB5 hg5 hat5)
          have hsl := H5.out.1.slice_
          obtain ⟨A9, c9, hv9, _⟩ := hsl
          rw [List.length_append, HLL.out, List.length_singleton] at hv9
          subst hv9
          go_roundw
          case rel =>
            obtain ⟨inn, hinn, _⟩ := H2.out.2.1
            refine ⟨j + 1, A9, c9, by omega, by go_num, rfl, H2.out.1.keep (KeepsIS.grown hinn H5.out.2.2), ?_, H2.out.2.2.trans (H5.out.2.1)⟩
            rw [List.range_succ, List.map_append, ← List.append_assoc]
            exact H5.out.1
          case measure => simp [intOf]; omega
        · obtain rfl : j = 64 := by omega
          have hcz : l0.length + 64 ≤ cz ∧ ∃ g, Az = some ⟨g, 0, none⟩ := by
            obtain ⟨inn, hinn, _⟩ := H2.out.2.1
            rcases hinn.2 with ⟨q, _⟩ | ⟨g, cap, cur, q, _, _, hn, _⟩
            · injection q with _ q2 _
              omega
            · injection q with q1 _ q3
              have hn' : (rows ++ (List.range 64).map markR).length ≤ cap := hn
              rw [List.length_append, HL0.out] at hn'
              simp at hn'
              exact ⟨by omega, g, q1⟩
          obtain ⟨hcz, g, rfl⟩ := hcz
          have n1 : (l0.length : Int) ≤ (cz : Int) := by omega
          have HF : Hid (Spared w.heap.size wr g cz l0) := Lib.hid ⟨rows ++ (List.range 64).map markR, by rw [List.length_append, HL0.out]; simp, fun k m r h1 h2 => H2.out.1 k m r h1 (by rwa [List.getElem?_append_left (by rw [HL0.out]; exact (List.getElem?_eq_some_iff.1 h1).1)] at h2), fun k hk => by
            rw [List.getElem?_append_right (by rw [HL0.out]; omega), HL0.out, Nat.add_sub_cancel_left, List.getElem?_map, List.getElem?_range hk]
            rfl, H2.out.2.1⟩
          go_wp2_with fail
          go_ret
          exact ⟨H2.out.2.2, g, cz, rfl, HF.out⟩
theorem row_cell1 {w : World} {base g n c : Nat} {e : TypeId} {xs : List Value} (h : w.ownsRow base e 1 (.slice (some ⟨g, 0, none⟩) n c) n xs) {i : Nat} {u : Value} (hi : xs[i]? = some u) : w.cell? ⟨g, i, none⟩ = some u := by
  obtain ⟨g', c', he, h3, _⟩ := own_cell h hi
  injection he with he _ _
  cases he
  exact h3
theorem row_cap1 {w : World} {base g n c : Nat} {e : TypeId} {xs : List Value} (h : w.ownsRow base e 1 (.slice (some ⟨g, 0, none⟩) n c) n xs) : n ≤ c := by
  rcases h.2 with ⟨q, _⟩ | ⟨g', cap, cur, q, _, _, hn, _⟩
  · cases q
  · injection q with _ _ q3
    omega
theorem intsM_mark {l : List Int} {j : Nat} (h : j < 64) : (i64s (intsM l))[l.length + j]? = some (.int .i64 (-21 - (j : Int))) := by
  unfold i64s intsM
  rw [List.getElem?_map, List.getElem?_append_right (by omega), Nat.add_sub_cancel_left]
  unfold marksD
  rw [List.getElem?_map, List.getElem?_range h]
  rfl
theorem strsM_mark {l : List ByteArray} {j : Nat} (h : j < 64) : (strsV (strsM l))[l.length + j]? = some (.string ⟨#[115, 112, 97, 114, 101]⟩) := by
  unfold strsV strsM
  rw [List.getElem?_map, List.getElem?_append_right (by omega), Nat.add_sub_cancel_left, List.getElem?_replicate, if_pos h]
  rfl
set_option maxRecDepth 200000 in
set_option maxHeartbeats 8000000 in
theorem stays_walk (w : World) (base g C : Nat) (B : Option Addr) (d : Nat) (l0 : List S45) (hsp : Spared base w g C l0) (hb : Kd.C k45 w B l0.length l0) (hs : ShortH l0) :
    Calls Try.prog 20 #[.slice (some ⟨g, 0, none⟩) l0.length C, .slice B l0.length d] w fun e w' => e = .returned (.bool true) ∧ Below w.heap.size w w' := by
  have HEQ := Lib.hid (eqhist_walk w (some ⟨g, 0, none⟩) C B d l0 (hsp.reads hs.1) hb hs)
  have HR := Lib.hid (And.intro hsp (And.intro hb hs))
  have hl : l0.length ≤ 2147483647 := hs.1
  have hcap := hsp.cap
  clear hb hs hsp
  have hu := Try.underlying45
  have hu3 := Try.underlying40
  have hu4 := Try.underlying43
  have hs1 : ((l0.length : Int) + 64).toNat = l0.length + 64 := by omega
  have hs2 : (0 : Int) ≤ (l0.length : Int) + 64 := by omega
  have hs3 : (l0.length : Int) + 64 ≤ (C : Int) := by omega
  go_enter Try.func20, Try.ntmps20
  go_wp2_with fail
  refine HEQ.out.mono ?_
  rintro e w1 ⟨rfl, hb1⟩
  have HB := Lib.hid hb1
  have HSP := Lib.hid (HR.out.1.below hb1)
  have HC := Lib.hid (Kd.C_below HR.out.2.1 hb1)
  clear hb1
  go_wp2_with fail
  go_loop [6] (fun s6 => ∃ j : Nat, j ≤ 64 ∧ s6 = .int .i64 j) (fun s6 => 64 - (intOf s6).toNat)
  case atStart => exact ⟨0, Nat.zero_le _, rfl⟩
  case round =>
    obtain ⟨j, hj, rfl⟩ := hrel
    by_cases hjl : j < 64
    · have hjD : decide ((j : Int) < 64) = true := decide_eq_true (by omega)
      have x0 : w1.cell? ⟨g, (l0.length + j) * 9, none⟩ = some (.int .i64 (-22 - (j : Int))) := by
        obtain ⟨rows, _, _, h3, h4⟩ := HSP.out.row
        exact outrow_cell h4 (h3 j hjl) (j := 0) rfl (by omega)
      have ha1 : ((l0.length : Int) + (j : Int)).toNat = l0.length + j := by omega
      have ha2 : (0 : Int) ≤ (l0.length : Int) + (j : Int) := by omega
      have ha3 : (l0.length : Int) + (j : Int) < (l0.length : Int) + 64 := by omega
      go_wp2_with fail
      go_round
      case rel => exact ⟨j + 1, by omega, by go_num⟩
      case measure => simp [intOf]; omega
    · obtain rfl : j = 64 := by omega
      go_wp2_with fail
      go_loop [7] (fun s7 => ∃ i : Nat, i ≤ l0.length ∧ s7 = .int .i64 i) (fun s7 => l0.length - (intOf s7).toNat)
      case atStart => exact ⟨0, Nat.zero_le _, rfl⟩
      case round =>
        obtain ⟨i, hi, rfl⟩ := hrel
        by_cases hil : i < l0.length
        · have hiD : decide ((i : Int) < (l0.length : Int)) = true := by simp; omega
          obtain ⟨bc, F7, f7, F8, f8, hB3, z0, z1, z2, z3, z4, z5, z6, z7, z8, _, _, _, _⟩ := at_T45 (w := w1) HC.out i (by omega) (by omega)
          subst hB3
          obtain ⟨m, hm⟩ : ∃ m, m = rd_T45 l0 (i : Nat) := ⟨_, rfl⟩
          rw [← hm] at z7 z8
          simp only [Int.toNat_natCast] at z7 z8
          have h47 : m.f3.f2.length ≤ 2147483647 ∧ m.f3.f3.length ≤ 2147483647 := by rw [hm]; exact HR.out.2.2.2 i hil
          obtain ⟨gk, ck, gv, cv, y7, y8, hik, hsv⟩ : ∃ gk ck gv cv, w1.cell? ⟨g, i * 9 + 7, none⟩ = some (.slice (some ⟨gk, 0, none⟩) m.f3.f2.length ck) ∧ w1.cell? ⟨g, i * 9 + 8, none⟩ = some (.slice (some ⟨gv, 0, none⟩) m.f3.f3.length cv) ∧
              w1.ownsRow 0 3 1 (.slice (some ⟨gk, 0, none⟩) (m.f3.f2.length + 64) ck) (m.f3.f2.length + 64) (i64s (intsM m.f3.f2)) ∧ w1.ownsRow 0 9 1 (.slice (some ⟨gv, 0, none⟩) (m.f3.f3.length + 64) cv) (m.f3.f3.length + 64) (strsV (strsM m.f3.f3)) := by
            obtain ⟨rows, h1, h2, h3, h4⟩ := HSP.out.row
            obtain ⟨r, hr⟩ : ∃ r, rows[i]? = some r := ⟨_, List.getElem?_eq_getElem (by omega)⟩
            obtain ⟨v7, v8, hrr, ⟨gk, ck, hk1, hk2⟩, ⟨gv, cv, hv1, hv2⟩⟩ := h2 i m r (by rw [hm]; exact mo_at hil) hr
            subst hk1
            subst hv1
            subst hrr
            exact ⟨gk, ck, gv, cv, outrow_cell h4 hr (j := 7) rfl (by omega), outrow_cell h4 hr (j := 8) rfl (by omega), hk2, hv2⟩
          have hck := row_cap1 hik
          have hcv := row_cap1 hsv
          have HROW := Lib.hid (And.intro hik hsv)
          have ht1 : ((m.f3.f2.length : Int) + 64).toNat = m.f3.f2.length + 64 := by omega
          have ht2 : (0 : Int) ≤ (m.f3.f2.length : Int) + 64 := by omega
          have ht3 : (m.f3.f2.length : Int) + 64 ≤ (ck : Int) := by omega
          have hw1 : ((m.f3.f3.length : Int) + 64).toNat = m.f3.f3.length + 64 := by omega
          have hw2 : (0 : Int) ≤ (m.f3.f3.length : Int) + 64 := by omega
          have hw3 : (m.f3.f3.length : Int) + 64 ≤ (cv : Int) := by omega
          have HM := Lib.hid hm
          obtain ⟨hk31, hv31⟩ := h47
          clear hm hik hsv z0 z1 z2 z3 z4 z5 z6
          go_wp2_with fail
          clear z7 z8 y7 y8
          go_loop [12] (fun s12 => ∃ j : Nat, j ≤ 64 ∧ s12 = .int .i64 j) (fun s12 => 64 - (intOf s12).toNat)
          case atStart => exact ⟨0, Nat.zero_le _, rfl⟩
          case round =>
            obtain ⟨j, hj, rfl⟩ := hrel
            by_cases hjl : j < 64
            · have hjD : decide ((j : Int) < 64) = true := decide_eq_true (by omega)
              have x0 : w1.cell? ⟨gk, m.f3.f2.length + j, none⟩ = some (.int .i64 (-21 - (j : Int))) := row_cell1 HROW.out.1 (intsM_mark hjl)
              have x1 : w1.cell? ⟨gv, m.f3.f3.length + j, none⟩ = some (.string ⟨#[115, 112, 97, 114, 101]⟩) := row_cell1 HROW.out.2 (strsM_mark hjl)
              have ha1 : ((m.f3.f2.length : Int) + (j : Int)).toNat = m.f3.f2.length + j := by omega
              have ha2 : (0 : Int) ≤ (m.f3.f2.length : Int) + (j : Int) := by omega
              have ha3 : (m.f3.f2.length : Int) + (j : Int) < (m.f3.f2.length : Int) + 64 := by omega
              have hb1 : ((m.f3.f3.length : Int) + (j : Int)).toNat = m.f3.f3.length + j := by omega
              have hb2 : (0 : Int) ≤ (m.f3.f3.length : Int) + (j : Int) := by omega
              have hb3 : (m.f3.f3.length : Int) + (j : Int) < (m.f3.f3.length : Int) + 64 := by omega
              go_wp2_with fail
              go_round
              case rel => exact ⟨j + 1, by omega, by go_num⟩
              case measure => simp [intOf]; omega
            · obtain rfl : j = 64 := by omega
              go_wp2_with fail
              go_round
              case rel => exact ⟨i + 1, by omega, by go_num⟩
              case measure => simp [intOf]; omega
        · obtain rfl : i = l0.length := by omega
          go_wp2_with fail
          go_ret
          exact ⟨rfl, HB.out⟩
def smallL : List S45 := [⟨0, true, ⟨2, 1, ⟨#[]⟩⟩, ⟨false, ⟨#[]⟩, [], []⟩⟩, ⟨1, true, ⟨1, 1, ⟨#[97]⟩⟩, ⟨false, ⟨#[]⟩, [], []⟩⟩, ⟨2, true, ⟨2, 1, ⟨#[]⟩⟩, ⟨false, ⟨#[]⟩, [], []⟩⟩, ⟨2, false, ⟨2, 1, ⟨#[]⟩⟩, ⟨false, ⟨#[]⟩, [], []⟩⟩, ⟨1, false, ⟨1, 1, ⟨#[97]⟩⟩, ⟨true, ⟨#[]⟩, [], []⟩⟩, ⟨0, false, ⟨2, 1, ⟨#[]⟩⟩, ⟨true, ⟨#[97]⟩, [], []⟩⟩]
def smallC : List S70 := [⟨0, 5, ⟨2, 1, ⟨#[]⟩⟩, ⟨true, ⟨#[97]⟩, [], []⟩⟩, ⟨1, 4, ⟨1, 1, ⟨#[97]⟩⟩, ⟨true, ⟨#[]⟩, [], []⟩⟩, ⟨2, 3, ⟨2, 1, ⟨#[]⟩⟩, ⟨false, ⟨#[]⟩, [], []⟩⟩]
theorem small_ref : refB smallL = some smallC := by kernel_rfl
theorem small_told : toldB smallC = some [2, 1, 0] := by kernel_rfl
theorem small_want : wantB smallL = [2, 1, 0] := by
  unfold wantB
  rw [small_ref, Option.bind_some, small_told]
  rfl
theorem small_short : ShortH smallL := by
  refine ⟨by decide, fun j hj => ?_⟩
  match j, hj with
  | 0, _ => exact ⟨by decide, by decide⟩
  | 1, _ => exact ⟨by decide, by decide⟩
  | 2, _ => exact ⟨by decide, by decide⟩
  | 3, _ => exact ⟨by decide, by decide⟩
  | 4, _ => exact ⟨by decide, by decide⟩
  | 5, _ => exact ⟨by decide, by decide⟩
  | j + 6, hj => exact absurd hj (by show ¬ j + 6 < 6; omega)
theorem small_kind (W : World) (g : Nat) (hg : W.heap[g]? = some (.cells #[.int .i64 0, .bool true, .int .i64 2, .int .i64 1, .string ⟨#[]⟩, .bool false, .string ⟨#[]⟩, .slice none 0 0, .slice none 0 0, .int .i64 1, .bool true, .int .i64 1, .int .i64 1, .string ⟨#[97]⟩, .bool false, .string ⟨#[]⟩, .slice none 0 0, .slice none 0 0, .int .i64 2, .bool true, .int .i64 2, .int .i64 1, .string ⟨#[]⟩, .bool false, .string ⟨#[]⟩, .slice none 0 0, .slice none 0 0, .int .i64 2, .bool false, .int .i64 2, .int .i64 1, .string ⟨#[]⟩, .bool false, .string ⟨#[]⟩, .slice none 0 0, .slice none 0 0, .int .i64 1, .bool false, .int .i64 1, .int .i64 1, .string ⟨#[97]⟩, .bool true, .string ⟨#[]⟩, .slice none 0 0, .slice none 0 0, .int .i64 0, .bool false, .int .i64 2, .int .i64 1, .string ⟨#[]⟩, .bool true, .string ⟨#[97]⟩, .slice none 0 0, .slice none 0 0] 45 (0, 0))) :
    Kd.C k45 W (some ⟨g, 0, none⟩) 6 smallL := by
  have h : OwnRow (k45.K W) 45 9 W g (.slice (some ⟨g, 0, none⟩) 6 6) smallL := by
    refine ⟨_, ⟨?_, .inr ⟨g, 6, _, rfl, Nat.le_refl _, hg, by decide, by decide, rfl, rfl⟩⟩, rfl, ?_⟩
    · rfl
    · have hk : ∀ m : S45, m.f3.f2 = [] → m.f3.f3 = [] → k45.K W m [.int .i64 m.f0, .bool m.f1, .int .i64 m.f2.f0, .int .i64 m.f2.f1, .string m.f2.f2, .bool m.f3.f0, .string m.f3.f1, .slice none 0 0, .slice none 0 0] := by
        rintro ⟨a, b, c, ⟨d, e, f, l⟩⟩ h1 h2
        cases h1
        cases h2
        exact k45_mk W _ (A7 := none) (c7 := 0) (Nat.le_refl _) (Kd.C_nil _ _) (A8 := none) (c8 := 0) (Nat.le_refl _) (Kd.C_nil _ _)
      intro j q hq
      match j, hq with
      | 0, hq => cases hq; exact hk _ rfl rfl
      | 1, hq => cases hq; exact hk _ rfl rfl
      | 2, hq => cases hq; exact hk _ rfl rfl
      | 3, hq => cases hq; exact hk _ rfl rfl
      | 4, hq => cases hq; exact hk _ rfl rfl
      | 5, hq => cases hq; exact hk _ rfl rfl
      | j + 6, hq => cases hq
  obtain ⟨A, c, he, _, hC⟩ := h.reads
  cases he
  exact hC
def SmallPost (w : World) (e : Ending) (w' : World) : Prop := Below w.heap.size w w' ∧ ∃ A c Aw cw, e = .returned (.tuple #[.slice A smallL.length c, .slice Aw (wantB smallL).length cw]) ∧ smallL.length ≤ c ∧ Kd.C k45 w' A smallL.length smallL ∧ (wantB smallL).length ≤ cw ∧ (Kd.int .i64).C w' Aw (wantB smallL).length (wantB smallL)
set_option maxRecDepth 100000 in
set_option maxHeartbeats 1000000 in
theorem small_walk (w : World) : Calls Try.prog 15 #[] w fun e w' => SmallPost w e w' := by
  go_enter Try.func15, Try.ntmps15
  go_wp2_with fail
  go_ret2
  refine ⟨below_alloc (below_alloc (below_alloc (below_alloc (Below.refl _ _) _) _) _) _, some ⟨w.heap.size + 2, 0, none⟩, 6, some ⟨w.heap.size + 3, 0, none⟩, 3, ?_, by decide, ?_, by rw [small_want]; decide, ?_⟩
  · rw [small_want]
    simp [smallL]
  · refine small_kind _ _ ?_
    exact blk_alloc (by have := new_blk (w := (w.alloc (.cells #[.int .i64 1, .int .i64 1, .string ⟨#[97]⟩] 40)).alloc (.cells #[.int .i64 2, .int .i64 1, .string ⟨#[]⟩] 40)) (.cells #[.int .i64 0, .bool true, .int .i64 2, .int .i64 1, .string ⟨#[]⟩, .bool false, .string ⟨#[]⟩, .slice none 0 0, .slice none 0 0, .int .i64 1, .bool true, .int .i64 1, .int .i64 1, .string ⟨#[97]⟩, .bool false, .string ⟨#[]⟩, .slice none 0 0, .slice none 0 0, .int .i64 2, .bool true, .int .i64 2, .int .i64 1, .string ⟨#[]⟩, .bool false, .string ⟨#[]⟩, .slice none 0 0, .slice none 0 0, .int .i64 2, .bool false, .int .i64 2, .int .i64 1, .string ⟨#[]⟩, .bool false, .string ⟨#[]⟩, .slice none 0 0, .slice none 0 0, .int .i64 1, .bool false, .int .i64 1, .int .i64 1, .string ⟨#[97]⟩, .bool true, .string ⟨#[]⟩, .slice none 0 0, .slice none 0 0, .int .i64 0, .bool false, .int .i64 2, .int .i64 1, .string ⟨#[]⟩, .bool true, .string ⟨#[97]⟩, .slice none 0 0, .slice none 0 0] 45); simpa using this) _
  · rw [small_want]
    have h2 : ∀ (V : World) (g : Nat), V.heap[g]? = some (.cells #[.int .i64 2, .int .i64 1, .int .i64 0] 3 (0, 0)) → (Kd.int .i64).C V (some ⟨g, 0, none⟩) 3 [2, 1, 0] := fun V g hg => by
      have h3 : V.ownsRow g 3 1 (.slice (some ⟨g, 0, none⟩) 3 3) 3 ([(2 : Int), 1, 0].map (Value.int .i64)) := ⟨rfl, .inr ⟨_, 3, _, rfl, Nat.le_refl _, hg, by decide, by decide, rfl, rfl⟩⟩
      exact (own_reads1 (h1 := fun _ => rfl) (xs := [(2 : Int), 1, 0]) h3).1
    refine h2 _ _ ?_
    have := fun (W : World) => new_blk (w := W) (.cells #[.int .i64 2, .int .i64 1, .int .i64 0] 3)
    simpa using this (((w.alloc (.cells #[.int .i64 1, .int .i64 1, .string ⟨#[97]⟩] 40)).alloc (.cells #[.int .i64 2, .int .i64 1, .string ⟨#[]⟩] 40)).alloc (.cells #[.int .i64 0, .bool true, .int .i64 2, .int .i64 1, .string ⟨#[]⟩, .bool false, .string ⟨#[]⟩, .slice none 0 0, .slice none 0 0, .int .i64 1, .bool true, .int .i64 1, .int .i64 1, .string ⟨#[97]⟩, .bool false, .string ⟨#[]⟩, .slice none 0 0, .slice none 0 0, .int .i64 2, .bool true, .int .i64 2, .int .i64 1, .string ⟨#[]⟩, .bool false, .string ⟨#[]⟩, .slice none 0 0, .slice none 0 0, .int .i64 2, .bool false, .int .i64 2, .int .i64 1, .string ⟨#[]⟩, .bool false, .string ⟨#[]⟩, .slice none 0 0, .slice none 0 0, .int .i64 1, .bool false, .int .i64 1, .int .i64 1, .string ⟨#[97]⟩, .bool true, .string ⟨#[]⟩, .slice none 0 0, .slice none 0 0, .int .i64 0, .bool false, .int .i64 2, .int .i64 1, .string ⟨#[]⟩, .bool true, .string ⟨#[97]⟩, .slice none 0 0, .slice none 0 0] 45))
def set9 (W : World) (g k : Nat) (m : S45) (v7 v8 : Value) : World := ((((((((W.setCell ⟨g, k * 9, none⟩ (.int .i64 m.f0)).setCell ⟨g, k * 9 + 1, none⟩ (.bool m.f1)).setCell ⟨g, k * 9 + 2, none⟩ (.int .i64 m.f2.f0)).setCell ⟨g, k * 9 + 3, none⟩ (.int .i64 m.f2.f1)).setCell ⟨g, k * 9 + 4, none⟩ (.string m.f2.f2)).setCell ⟨g, k * 9 + 5, none⟩ (.bool m.f3.f0)).setCell ⟨g, k * 9 + 6, none⟩ (.string m.f3.f1)).setCell ⟨g, k * 9 + 7, none⟩ v7).setCell ⟨g, k * 9 + 8, none⟩ v8
theorem set9_only (W : World) (g k : Nat) (m : S45) (v7 v8 : Value) : Only W (set9 W g k m v7 v8) fun b => b = g := ((((((((((Only.refl W fun b => b = g).setCell (p := ⟨g, k * 9, none⟩) (.inl rfl) _).setCell (p := ⟨g, k * 9 + 1, none⟩) (.inl rfl) _).setCell (p := ⟨g, k * 9 + 2, none⟩) (.inl rfl) _).setCell (p := ⟨g, k * 9 + 3, none⟩) (.inl rfl) _).setCell (p := ⟨g, k * 9 + 4, none⟩) (.inl rfl) _).setCell (p := ⟨g, k * 9 + 5, none⟩) (.inl rfl) _).setCell (p := ⟨g, k * 9 + 6, none⟩) (.inl rfl) _).setCell (p := ⟨g, k * 9 + 7, none⟩) (.inl rfl) _).setCell (p := ⟨g, k * 9 + 8, none⟩) (.inl rfl) _)
theorem set9_row {W : World} {base g k n C : Nat} {rows : List (List Value)} (h : OutRow W base (.slice (some ⟨g, 0, none⟩) n C) rows) (hn : n = rows.length) (hk : k < rows.length) (m : S45) (v7 v8 : Value) : OutRow (set9 W g k m v7 v8) base (.slice (some ⟨g, 0, none⟩) n C) (rows.set k (rowV m v7 v8)) := by
  subst hn
  obtain ⟨inner, ho, hr⟩ := h
  refine ⟨_, by rw [List.length_set]; exact (own_setS (own_setS (own_setS (own_setS (own_setS (own_setS (own_setS (own_setS (own_setS ho _ _) _ _) _ _) _ _) _ _) _ _) _ _) _ _) _ _), reps_set hr k hk rfl rfl _ (by simp) ?_ ?_⟩
  · have hl : k * 9 + 9 ≤ inner.length := by rw [hr.1]; have := Nat.mul_le_mul_right 9 (show k + 1 ≤ rows.length from hk); rw [Nat.add_mul] at this; omega
    intro j hj
    rcases j with _ | _ | _ | _ | _ | _ | _ | _ | _ | j
    all_goals first | omega | (simp [List.getElem?_set, rowV]; omega)
  · intro j hj
    simp only [List.getElem?_set]
    rw [if_neg (by omega), if_neg (by omega), if_neg (by omega), if_neg (by omega), if_neg (by omega), if_neg (by omega), if_neg (by omega), if_neg (by omega), if_neg (by omega)]
theorem outrow_typed {W : World} {base g n C : Nat} {rows : List (List Value)} (h : OutRow W base (.slice (some ⟨g, 0, none⟩) n C) rows) : ∃ cells, W.heap[g]? = some (.cells cells 45 (0, 0)) := by
  obtain ⟨inner, ho, _⟩ := h
  exact own_typed ho g rfl
theorem keeps_only {W V : World} {g : Nat} (ho : Only W V fun b => b = g) {cells0 : Array Value} (hg : W.heap[g]? = some (.cells cells0 45 (0, 0))) : KeepsIS W V := fun b cells t hb ht => ho.block b (blk_lt hb) (by
  rintro rfl
  rw [hg] at hb
  injection hb with hb
  injection hb with _ hb _
  rcases ht with rfl | rfl
  · exact absurd hb (by decide)
  · exact absurd hb (by decide))
theorem Spared.swap {W : World} {base g C i : Nat} {l : List S45} {rows : List (List Value)} {m m' : S45} {v7 v8 u7 u8 : Value} (h1 : rows.length = l.length + 64) (h2 : SpRows W l rows) (h3 : ∀ j, j < 64 → rows[l.length + j]? = some (markR j)) (h4 : OutRow W base (.slice (some ⟨g, 0, none⟩) (l.length + 64) C) rows)
    (hi : i + 1 < l.length) (hr : rows[i]? = some (rowV m v7 v8)) (hr' : rows[i + 1]? = some (rowV m' u7 u8)) (hm : l[i]? = some m) (hm' : l[i + 1]? = some m') :
    Spared base (set9 (set9 W g i m' u7 u8) g (i + 1) m v7 v8) g C ((l.set i m').set (i + 1) m) := by
  have o1 := set9_row h4 h1.symm (k := i) (by omega) m' u7 u8
  have o2 := set9_row o1 (by rw [List.length_set]; exact h1.symm) (k := i + 1) (by rw [List.length_set]; omega) m v7 v8
  obtain ⟨c0, hc0⟩ := outrow_typed h4
  obtain ⟨c1, hc1⟩ := outrow_typed o1
  have hk := (keeps_only (set9_only W g i m' u7 u8) hc0).trans (keeps_only (set9_only _ g (i + 1) m v7 v8) hc1)
  refine ⟨(rows.set i (rowV m' u7 u8)).set (i + 1) (rowV m v7 v8), by simp [h1], fun j q r hq hrr => ?_, fun j hj => ?_, by simpa using o2⟩
  · rw [List.getElem?_set] at hq hrr
    by_cases e1 : i + 1 = j
    · subst e1
      rw [if_pos rfl, if_pos (by rw [List.length_set]; omega)] at hq hrr
      obtain rfl := Option.some.inj hq
      obtain rfl := Option.some.inj hrr
      exact (h2 i m _ hm hr).keep hk
    · rw [if_neg e1, List.getElem?_set] at hq hrr
      by_cases e2 : i = j
      · subst e2
        rw [if_pos rfl, if_pos (by omega)] at hq hrr
        obtain rfl := Option.some.inj hq
        obtain rfl := Option.some.inj hrr
        exact (h2 (i + 1) m' _ hm' hr').keep hk
      · rw [if_neg e2] at hq hrr
        exact (h2 j q r hq hrr).keep hk
  · rw [List.length_set, List.length_set, List.getElem?_set, if_neg (by omega), List.getElem?_set, if_neg (by omega)]
    exact h3 j hj
theorem short_swap {l : List S45} {i : Nat} {m m' : S45} (hs : ShortH l) (hi : i + 1 < l.length) (hm : l[i]? = some m) (hm' : l[i + 1]? = some m') : ShortH ((l.set i m').set (i + 1) m) := by
  refine ⟨by simpa using hs.1, fun j hj => ?_⟩
  simp only [List.length_set] at hj
  have key : ∀ (k : Nat) (q : S45), l[k]? = some q → q.f3.f2.length ≤ 2147483647 ∧ q.f3.f3.length ≤ 2147483647 := fun k q hq => by
    have hk := (List.getElem?_eq_some_iff.1 hq).1
    have := hs.2 k hk
    rw [show rd_T45 l (k : Nat) = q from Option.some.inj ((mo_at hk).symm.trans hq)] at this
    exact this
  have hq : ∃ (q : S45) (k : Nat), ((l.set i m').set (i + 1) m)[j]? = some q ∧ l[k]? = some q := by
    rw [List.getElem?_set]
    by_cases e1 : i + 1 = j
    · exact ⟨m, i, by rw [if_pos e1, if_pos (by rw [List.length_set]; omega)], hm⟩
    · rw [if_neg e1, List.getElem?_set]
      by_cases e2 : i = j
      · exact ⟨m', i + 1, by rw [if_pos e2, if_pos (by omega)], hm'⟩
      · rw [if_neg e2]
        exact ⟨l[j], j, List.getElem?_eq_getElem hj, List.getElem?_eq_getElem hj⟩
  obtain ⟨q, k, h1, h2⟩ := hq
  rw [show rd_T45 ((l.set i m').set (i + 1) m) (j : Nat) = q from Option.some.inj ((mo_at (by simpa using hj)).symm.trans h1)]
  exact key k q h2
set_option maxRecDepth 200000 in
set_option maxHeartbeats 8000000 in
theorem checks_walk (w : World) (A : Option Addr) (c : Nat) (l0 : List S45) (hr : Kd.C k45 w A l0.length l0) (hc : l0.length ≤ c) (hbig : ∀ j, j < l0.length → (rd_T45 l0 (j : Nat)).f3.f2.length ≤ 70368744177664 ∧ (rd_T45 l0 (j : Nat)).f3.f3.length ≤ 70368744177664) :
    Calls Try.prog 4 #[.slice A l0.length c] w fun e w' => e = .returned (.bool true) ∧ Below w.heap.size w w' := by
  have HR := Lib.hid (And.intro hr hc)
  have HBG := Lib.hid hbig
  clear hr hc hbig
  have hu := Try.underlying45
  have hu3 := Try.underlying40
  have hu4 := Try.underlying43
  go_enter Try.func4, Try.ntmps4
  go_wp2_with fail
  refine (long_walk w A c l0 HR.out.1 HR.out.2 HBG.out).mono ?_
  rintro e w1 ⟨b, rfl, hb1, hlb⟩
  cases b with
  | true =>
    go_wp2_with fail
    go_ret
    exact ⟨rfl, hb1⟩
  | false =>
    have HB1 := Lib.hid hb1
    have HL : Hid (ShortH l0) := Lib.hid (hlb rfl)
    have hl : l0.length ≤ 2147483647 := HL.out.1
    clear hb1 hlb
    go_wp2_with fail
    refine (small_walk w1).mono ?_
    rintro e w2 ⟨hb2, As, cs, Aw, cw, rfl, hcs, hCs, hcw, hCw⟩
    have HB2 := Lib.hid (below_step HB1.out hb2)
    obtain ⟨S, hS⟩ : ∃ S, S = smallL := ⟨_, rfl⟩
    obtain ⟨WS, hWS⟩ : ∃ WS, WS = wantB smallL := ⟨_, rfl⟩
    have hss : ShortH S := by rw [hS]; exact small_short
    have hws : WS = wantB S := by rw [hS]; exact hWS
    rw [← hWS] at hcw hCw ⊢
    rw [← hS] at hcs hCs ⊢
    have HSM := Lib.hid (owns_walk w2 As cs S hCs hcs hss Aw cw WS hws hCw hcw)
    clear hb2 hcs hCs hcw hCw hS hWS hss hws
    go_wp2_with fail
    refine HSM.out.mono ?_
    rintro e w3 ⟨rfl, hb3⟩
    have HB3 := Lib.hid (below_step HB2.out hb3)
    clear hb3 HSM
    go_wp2_with fail
    refine (spare_walk w3 A c l0 (Kd.C_below HR.out.1 HB3.out) HL.out).mono ?_
    rintro e w4 ⟨hb4, g, C, rfl, hsp⟩
    have HB4 := Lib.hid (below_step HB3.out hb4)
    have HSP := Lib.hid hsp
    have hcap := hsp.cap
    clear hb4 hsp
    go_wp2_with fail
    refine (same_walk w4 (some ⟨g, 0, none⟩) C A c l0 (HSP.out.reads HL.out.1) (by omega) (Kd.C_below HR.out.1 HB4.out) HR.out.2 HL.out).mono ?_
    rintro e w5 ⟨rfl, hb5⟩
    have HB5 := Lib.hid (below_step HB4.out hb5)
    have HS5 := Lib.hid (HSP.out.below hb5)
    clear hb5
    go_wp2_with fail
    refine (rorder_walk w5 A c l0 (Kd.C_below HR.out.1 HB5.out) HR.out.2 HL.out).mono ?_
    rintro e w6 ⟨v, b, x, rfl, hb6, ho⟩
    have HB6 := Lib.hid (below_step HB5.out hb6)
    have HS6 := Lib.hid (HS5.out.below hb6)
    have hrow := (order_row ho).1
    obtain ⟨L, hL⟩ : ∃ L, L = wantB l0 := ⟨_, rfl⟩
    rw [← hL] at hrow
    obtain ⟨Az, cz, rfl, lz, kz⟩ := row_reads hrow
    have HZ := Lib.hid (And.intro hL (And.intro lz kz))
    clear hb6 ho hrow hL lz kz
    go_wp2_with fail
    refine (stays_walk w6 _ g C A c l0 HS6.out (Kd.C_below HR.out.1 HB6.out) HL.out).mono ?_
    rintro e w7 ⟨rfl, hb7⟩
    have HB7 := Lib.hid (below_step HB6.out hb7)
    have HS7 := Lib.hid (HS6.out.below hb7)
    have HZ7 := Lib.hid (Kd.C_below HZ.out.2.2 hb7)
    clear hb7
    go_wp2_with fail
    refine (owns_walk w7 (some ⟨g, 0, none⟩) C l0 (HS7.out.reads HL.out.1) (by omega) HL.out Az cz L HZ.out.1 HZ7.out HZ.out.2.1).mono ?_
    rintro e w8 ⟨rfl, hb8⟩
    have HB8 := Lib.hid (below_step HB7.out hb8)
    have HS8 := Lib.hid (HS7.out.below hb8)
    clear hb8
    go_wp2_with fail
    refine (same_walk w8 (some ⟨g, 0, none⟩) C A c l0 (HS8.out.reads HL.out.1) (by omega) (Kd.C_below HR.out.1 HB8.out) HR.out.2 HL.out).mono ?_
    rintro e w9 ⟨rfl, hb9⟩
    have HB9 := Lib.hid (below_step HB8.out hb9)
    have HS9 := Lib.hid (HS8.out.below hb9)
    clear hb9
    go_wp2_with fail
    refine (stays_walk w9 _ g C A c l0 HS9.out (Kd.C_below HR.out.1 HB9.out) HL.out).mono ?_
    rintro e x1 ⟨rfl, hb10⟩
    have HX1 := Lib.hid (below_step HB9.out hb10)
    have HSX := Lib.hid (HS9.out.below hb10)
    clear hb10
    go_wp2_with fail
    go_loopw [11] (fun s11 wr => ∃ (i : Nat) (l : List S45), s11 = .int .i64 i ∧ i ≤ l0.length + 1 ∧ l.length = l0.length ∧ ShortH l ∧ Spared w3.heap.size wr g C l ∧ Below w.heap.size w wr) (fun s11 _ => l0.length + 1 - (intOf s11).toNat)
    case atStart => exact ⟨0, l0, rfl, Nat.zero_le _, rfl, HL.out, HSX.out, HX1.out⟩
    case round =>
      obtain ⟨i, l, rfl, hi, hll, hsl, hsp, hB⟩ := hrel
      have H := Lib.hid (And.intro hll (And.intro hsl (And.intro hsp hB)))
      clear hll hsl hsp hB
      have hi2 : i ≤ 2147483648 := by omega
      by_cases hlt : i + 1 < l0.length
      · have hlD : decide ((i : Int) + 1 < (l0.length : Int)) = true := by simp; omega
        obtain ⟨rows, h1, h2, h3, h4⟩ := H.out.2.2.1.row
        obtain ⟨r, hr⟩ : ∃ r, rows[i]? = some r := ⟨_, List.getElem?_eq_getElem (by have := H.out.1; omega)⟩
        obtain ⟨r', hr'⟩ : ∃ r', rows[i + 1]? = some r' := ⟨_, List.getElem?_eq_getElem (by have := H.out.1; omega)⟩
        obtain ⟨m, hm⟩ : ∃ m, l[i]? = some m := ⟨_, List.getElem?_eq_getElem (by have := H.out.1; omega)⟩
        obtain ⟨m', hm'⟩ : ∃ m', l[i + 1]? = some m' := ⟨_, List.getElem?_eq_getElem (by have := H.out.1; omega)⟩
        obtain ⟨_, _, rfl, ⟨gk, ck, rfl, _⟩, ⟨gv, cv, rfl, _⟩⟩ := h2 i m r hm hr
        obtain ⟨_, _, rfl, ⟨jk, dk, rfl, _⟩, ⟨jv, dv, rfl, _⟩⟩ := h2 (i + 1) m' r' hm' hr'
        have x0 := outrow_cell h4 hr (j := 0) rfl (by omega)
        have x1' := outrow_cell h4 hr (j := 1) rfl (by omega)
        have x2 := outrow_cell h4 hr (j := 2) rfl (by omega)
        have x3 := outrow_cell h4 hr (j := 3) rfl (by omega)
        have x4 := outrow_cell h4 hr (j := 4) rfl (by omega)
        have x5 := outrow_cell h4 hr (j := 5) rfl (by omega)
        have x6 := outrow_cell h4 hr (j := 6) rfl (by omega)
        have x7 := outrow_cell h4 hr (j := 7) rfl (by omega)
        have x8 := outrow_cell h4 hr (j := 8) rfl (by omega)
        have z0 := outrow_cell h4 hr' (j := 0) rfl (by omega)
        have z1 := outrow_cell h4 hr' (j := 1) rfl (by omega)
        have z2 := outrow_cell h4 hr' (j := 2) rfl (by omega)
        have z3 := outrow_cell h4 hr' (j := 3) rfl (by omega)
        have z4 := outrow_cell h4 hr' (j := 4) rfl (by omega)
        have z5 := outrow_cell h4 hr' (j := 5) rfl (by omega)
        have z6 := outrow_cell h4 hr' (j := 6) rfl (by omega)
        have z7 := outrow_cell h4 hr' (j := 7) rfl (by omega)
        have z8 := outrow_cell h4 hr' (j := 8) rfl (by omega)
        simp only [Nat.add_zero] at x0 z0
        have HRW := Lib.hid (And.intro h1 (And.intro h2 (And.intro h3 (And.intro h4 (And.intro hr (And.intro hr' (And.intro hm hm')))))))
        have fz : ∀ k, wr.frozen? ⟨g, k, none⟩ = false := by
          obtain ⟨inner, ho, _⟩ := h4
          rcases ho.2 with ⟨q, _⟩ | ⟨g', cap, cur, q, _, hh, _⟩
          · cases q
          · injection q with q1 _ _
            cases q1
            exact blk_frozen hh
        have hgl := World.block_lt_of_cell? wr _ x0
        dsimp only at hgl
        have hne1 : g ≠ wr.heap.size := by omega
        have hne2 : wr.heap.size ≠ g := by omega
        clear h1 h2 h3 h4 hr hr' hm hm'
        have ha1 : ((i : Int) + 1).toNat = i + 1 := by omega
        have ha2 : (0 : Int) ≤ (i : Int) + 1 := by omega
        go_wp2_with fail
        have hsw := Spared.swap HRW.out.1 HRW.out.2.1 HRW.out.2.2.1 HRW.out.2.2.2.1 (by have := H.out.1; omega) HRW.out.2.2.2.2.1 HRW.out.2.2.2.2.2.1 HRW.out.2.2.2.2.2.2.1 HRW.out.2.2.2.2.2.2.2
        go_roundw
        case rel =>
          refine ⟨i + 2, (l.set i m').set (i + 1) m, by go_num, by omega, by simp [H.out.1], short_swap H.out.2.1 (by have := H.out.1; omega) HRW.out.2.2.2.2.2.2.1 HRW.out.2.2.2.2.2.2.2, hsw.below (below_alloc (Below.refl _ _) _), ?_⟩
          refine below_alloc (H.out.2.2.2.trans (((set9_only wr g i m' _ _).trans' (set9_only _ g (i + 1) m _ _)).below (below_size H.out.2.2.2) fun b e => ?_)) _
          subst e
          have h4 := HRW.out.2.2.2.1
          obtain ⟨inner, ho, _⟩ := h4
          exact Nat.le_trans (below_size HB3.out) (own_base ho _ rfl)
        case measure => simp [intOf]; omega
      · have hlD : decide ((i : Int) + 1 < (l0.length : Int)) = false := by simp; omega
        have hsr := H.out.2.2.1.reads H.out.2.1.1
        rw [← H.out.1] at hlD ⊢
        have HSR := Lib.hid hsr
        have hcl : l.length ≤ C := by have := H.out.1; omega
        clear hsr
        go_wp2_with fail
        refine (fugueref00_CopyHistory.calls (2147483649 + l.length) (some ⟨g, 0, none⟩) C l l wr HSR.out hcl (copyHist_some l H.out.2.1.1 H.out.2.1.2)).mono ?_
        rintro e y1 ⟨v3, rfl, hs3, hb3⟩
        have HY1 := Lib.hid (below_step H.out.2.2.2 hb3)
        obtain ⟨A3, c3, rfl, hl3, hC3⟩ := Kd.S_reads hs3
        have HS3 := Lib.hid (And.intro hl3 (And.intro hC3 (Kd.C_below HSR.out hb3)))
        clear hb3 hs3 hl3 hC3
        go_wp2_with fail
        refine (same_walk y1 (some ⟨g, 0, none⟩) C A3 c3 l HS3.out.2.2 hcl HS3.out.2.1 HS3.out.1 H.out.2.1).mono ?_
        rintro e y2 ⟨rfl, hb⟩
        have HY2 := Lib.hid (below_step HY1.out hb)
        clear hb
        go_wp2_with fail
        go_ret
        exact ⟨rfl, HY2.out⟩
end Go.Proofs.Ytfahoomkpammiaa
namespace Go.Proofs.Ytfahoomkpammiaa
open Go.ChangeShapes Go.WideShapes Go.RowKit Go.Deep Go.Proofs.YtfahoomkpammiaaW.PrintWords
section
variable {H : Type} {enc : TypeId × Value → H} {P : Program} {W : World} {sp : Nat → Bool} {held : Bool}
def wOk (P : Program) (t : TypeId) (d : DataW H) : Prop := ∀ n ∈ d.weights P t, n ≤ 140737488351232
def Opens (enc : TypeId × Value → H) (P : Program) (W : World) (sp : Nat → Bool) (held : Bool) (t : TypeId) {α : Type} (K : Kd α) (G : α → Prop) : Prop :=
  ∀ (fuel base : Nat) (cs : List Value) (x : DataW H × List MemPlace), DataW.trod enc P W base sp held fuel t cs = some x → wOk P t x.1 → ∃ a, K.K W a cs ∧ G a
theorem Opens.imp {t : TypeId} {α : Type} {K : Kd α} {G G' : α → Prop} (h : Opens enc P W sp held t K G) (hg : ∀ a, G a → G' a) : Opens enc P W sp held t K G' := fun fuel base cs x hx hw =>
  let ⟨a, h1, h2⟩ := h fuel base cs x hx hw
  ⟨a, h1, hg a h2⟩
theorem opens_int {t : TypeId} {k : IntKind} (ht : P.underlying t = some (.int k)) : Opens enc P W sp held t (Kd.int k) (fun n => (Lit.int k n).wf = true) := by
  intro fuel base cs x h _
  obtain ⟨n, h1, _, h2⟩ := DataW.trod_int ht h
  exact ⟨n, h1, h2⟩
theorem opens_bool {t : TypeId} (ht : P.underlying t = some .bool) : Opens enc P W sp held t Kd.bool (fun _ => True) := by
  intro fuel base cs x h _
  obtain ⟨n, h1, _⟩ := DataW.trod_bool ht h
  exact ⟨n, h1, trivial⟩
theorem opens_string {t : TypeId} (ht : P.underlying t = some .string) : Opens enc P W sp held t Kd.string (fun s => s.size ≤ 140737488351232) := by
  intro fuel base cs x h hw
  obtain ⟨s, h1, h2, _⟩ := DataW.trod_string ht h
  refine ⟨s, h1, ?_⟩
  have := hw s.data.toList.length (by rw [h2]; simp [DataW.weights])
  simpa using this
theorem list_of_ex {α : Type} {p : Nat → α → Prop} : ∀ n : Nat, (∀ i, i < n → ∃ a, p i a) → ∃ l : List α, l.length = n ∧ ∀ i a, l[i]? = some a → p i a := by
  intro n
  induction n with
  | zero => intro _; exact ⟨[], rfl, fun i a h => by simp at h⟩
  | succ n ih =>
    intro h
    obtain ⟨l, h1, h2⟩ := ih fun i hi => h i (by omega)
    obtain ⟨a, ha⟩ := h n (by omega)
    refine ⟨l ++ [a], by simp [h1], fun i b hb => ?_⟩
    rcases Nat.lt_or_ge i l.length with q | q
    · rw [List.getElem?_append_left q] at hb
      exact h2 i b hb
    · rw [List.getElem?_append_right q] at hb
      rcases Nat.eq_zero_or_pos (i - l.length) with z | z
      · rw [z] at hb
        obtain rfl := Option.some.inj hb
        obtain rfl : i = n := by omega
        exact ha
      · rw [List.getElem?_eq_none (by simp; omega)] at hb
        cases hb
theorem weights_all {e : TypeId} {n : Nat} : ∀ {l : List (DataW H)} {d : DataW H}, d ∈ l → n ∈ d.weights P e → n ∈ DataW.weightsAll P e l := by
  intro l
  induction l with
  | nil => intro d h; cases h
  | cons a l ih =>
    intro d h hn
    unfold DataW.weightsAll
    rcases List.mem_cons.1 h with rfl | q
    · exact List.mem_append_left _ hn
    · exact List.mem_append_right _ (ih q hn)
theorem opens_slice {t e : TypeId} {α : Type} {K : Kd α} {G : α → Prop} {B : Nat} (ht : P.underlying t = some (.slice e)) (hc : P.cellsOf e = K.sz) (hB : P.bytesOf e = B) (h : Opens enc P W sp held e K G) :
    Opens enc P W sp held t (Kd.slice e K) (fun l => l.length * B ≤ 140737488351232 ∧ l.length ≤ 9223372036854775807 ∧ ∀ a ∈ l, G a) := by
  intro fuel base cs x hx hw
  rcases open_slice ht hx with ⟨rfl, _⟩ | ⟨a, len, cap, m, n, D, Pl, rfl, _, hl, hm, hmm, rfl, hi⟩
  · exact ⟨[], ⟨none, 0, rfl, Nat.le_refl _, rfl, Nat.zero_le _, fun q => by cases q⟩, by simp, by simp, fun a q => by cases q⟩
  · have hlm : len ≤ m := by rw [hmm]; split <;> omega
    have hD : ∀ i, i < len → wOk P e (D i) := fun i hi n hn => hw n (by
      simp only [DataW.weights, ht]
      exact List.mem_cons_of_mem _ (List.mem_append_left _ (weights_all (List.mem_map.2 ⟨i, List.mem_range.2 hi, rfl⟩) hn)))
    have hlen : len * B ≤ 140737488351232 := by
      have := hw ((((List.range len).map D).length + ((List.range (m - len)).map fun j => D (len + j)).length) * P.bytesOf e) (by
        simp only [DataW.weights, ht]
        exact List.mem_cons_self)
      rw [hB, List.length_map, List.length_range] at this
      exact Nat.le_trans (Nat.mul_le_mul_right _ (Nat.le_add_right _ _)) this
    obtain ⟨l, l1, l2⟩ := list_of_ex (p := fun i (y : α) => (∃ c : List Value, c.length = K.sz ∧ K.K W y c ∧ ∀ j u, c[j]? = some u → W.cell? (a.add (i * K.sz + j)) = some u) ∧ G y) len fun i hin => by
      obtain ⟨cs', c1, c2⟩ := hi i (by omega)
      obtain ⟨y, y1, y2⟩ := h _ _ _ _ c2 (hD i hin)
      obtain ⟨_, c3, c4⟩ := World.cells?_some c1
      rw [hc] at c3 c4
      refine ⟨y, ⟨cs', c3, y1, fun j u hu => ?_⟩, y2⟩
      have hj : j < K.sz := by rw [← c3]; exact (List.getElem?_eq_some_iff.1 hu).1
      have := c4 j hj
      rw [hu, Go.Deep.add_add] at this
      exact this
    subst l1
    unfold maxLen at hm
    refine ⟨l, ⟨some a, cap, rfl, hl, rfl, by omega, fun _ => ⟨a, rfl, fun j p hp => (l2 j p hp).1⟩⟩, hlen, by omega, fun y hy => ?_⟩
    obtain ⟨i, hi2, rfl⟩ := List.getElem_of_mem hy
    exact (l2 i _ (List.getElem?_eq_getElem hi2)).2
def OpensF (enc : TypeId × Value → H) (P : Program) (W : World) (sp : Nat → Bool) (held : Bool) (fs : List Field) (off : Nat) {α : Type} (K : Kd α) (G : α → Prop) : Prop :=
  ∀ (n base : Nat) (cs : List Value) (ys : List (DataW H × List MemPlace)), (∀ (i : Nat) (f : Field), fs[i]? = some f → DataW.trod enc P W base sp held n f.type ((cs.drop f.offset).take (P.cellsOf f.type)) = ys[i]?) →
    ys.length = fs.length → cs.length = off + K.sz → (∀ n ∈ DataW.weightsEach P (fs.map (·.type)) (ys.map (·.1)), n ≤ 140737488351232) → ∃ a, K.K W a (cs.drop off) ∧ G a
theorem opensF_one {f : Field} {off : Nat} {α : Type} {K : Kd α} {G : α → Prop} (ho : f.offset = off) (hc : P.cellsOf f.type = K.sz) (h : Opens enc P W sp held f.type K G) : OpensF enc P W sp held [f] off K G := by
  intro n base cs ys hy hl hcs hw
  match ys, hl with
  | [y], _ =>
    have h0 := hy 0 f rfl
    rw [ho, hc, List.take_of_length_le (by rw [List.length_drop]; omega)] at h0
    exact h _ _ _ _ h0 fun m hm => hw m (by simp [DataW.weightsEach, hm])
theorem opensF_cons {f : Field} {fs : List Field} {off : Nat} {α β : Type} {K0 : Kd α} {G0 : α → Prop} {K1 : Kd β} {G1 : β → Prop} (ho : f.offset = off) (hc : P.cellsOf f.type = K0.sz) (h0 : Opens enc P W sp held f.type K0 G0) (h1 : OpensF enc P W sp held fs (off + K0.sz) K1 G1) :
    OpensF enc P W sp held (f :: fs) off (Kd.pair K0 K1) (fun p => G0 p.1 ∧ G1 p.2) := by
  intro n base cs ys hy hl hcs hw
  match ys, hl with
  | y :: ys, hl =>
    have e0 := hy 0 f rfl
    rw [ho, hc] at e0
    have hcs' : cs.length = off + (K0.sz + K1.sz) := hcs
    obtain ⟨a, a1, a2⟩ := h0 _ _ _ _ e0 fun m hm => hw m (by simp [DataW.weightsEach, hm])
    obtain ⟨b, b1, b2⟩ := h1 n base cs ys (fun i g hg => hy (i + 1) g hg) (by simpa using hl) (by omega) fun m hm => hw m (by
      simp only [List.map_cons, DataW.weightsEach]
      exact List.mem_append_right _ hm)
    refine ⟨(a, b), ⟨_, _, ?_, a1, b1⟩, a2, b2⟩
    rw [← List.drop_drop, List.take_append_drop]
theorem opens_struct {t : TypeId} {fs : Array Field} {α β : Type} {K : Kd α} {G : α → Prop} (f : β → α) (g : α → β) (hfg : ∀ a, f (g a) = a) (ht : P.underlying t = some (.struct fs)) (hc : P.cellsOf t = K.sz) (h : OpensF enc P W sp held fs.toList 0 K G) :
    Opens enc P W sp held t (Kd.iso K f) (fun b => G (f b)) := by
  intro fuel base cs x hx hw
  obtain ⟨ys, n, _, rfl, hl, hyl, hf⟩ := DataW.trod_struct ht hx
  obtain ⟨a, a1, a2⟩ := h n base cs ys (fun i q hq => hf i q (by simpa using hq)) (by simpa using hyl) (by rw [hl, hc, Nat.zero_add]) fun m hm => hw m (by
    simp only [DataW.weights, ht]
    exact hm)
  exact ⟨g a, by show K.K W (f (g a)) cs; rw [hfg]; exact a1, by show G (f (g a)); rw [hfg]; exact a2⟩
theorem opens_arg {t e : TypeId} {α : Type} {K : Kd α} {G : List α → Prop} {A : Option Addr} {n c : Nat} {d : DataW H} {p : List MemPlace} (h : Opens enc P W sp held t (Kd.slice e K) G) {base : Nat} (ht : DataW.Trod enc P W base sp held t (.slice A n c) d p) (hw : wOk P t d) :
    ∃ l : List α, n = l.length ∧ l.length ≤ c ∧ Kd.C K W A l.length l ∧ G l := by
  obtain ⟨fuel, hf⟩ := ht
  obtain ⟨l, ⟨A', c', h1, h2, h3⟩, h4⟩ := h _ _ _ _ hf hw
  have h1' : [Value.slice A n c] = [Value.slice A' l.length c'] := h1
  injection h1' with h1' _
  injection h1' with e1 e2 e3
  subst e1; subst e3
  exact ⟨l, e2, h2, h3, h4⟩
theorem wOk_of {ts : List TypeId} {ds : List (DataW H)} (hsz : (DataW.weightsEach P ts ds).all (· ≤ reachBytes) = true) {j : Nat} {t : TypeId} {d : DataW H} (ht : ts[j]? = some t) (hd : ds[j]? = some d) : wOk P t d := by
  intro n hn
  have := List.all_eq_true.1 hsz _ (DataW.weights_mem_each ht hd n hn)
  simp [reachBytes] at this
  exact of_decide_eq_true this
end
end Go.Proofs.Ytfahoomkpammiaa
namespace Go.Proofs.Ytfahoomkpammiaa
open Go.ChangeShapes Go.WideShapes Go.RowKit Go.Deep Go.Proofs.YtfahoomkpammiaaW.PrintWords Go.Proofs.YtfahoomkpammiaaW.PrintLast Go.Proofs.YtfahoomkpammiaaW.PrintMore Go.Proofs.Ytfahoomkpammiaa.PHistOrders
section
variable {H : Type} {enc : TypeId × Value → H} {W : World} {sp : Nat → Bool} {held : Bool}
theorem cInt : Try.prog.cellsOf 3 = 1 := by kernel_rfl
theorem cBool : Try.prog.cellsOf 4 = 1 := by kernel_rfl
theorem cString : Try.prog.cellsOf 9 = 1 := by kernel_rfl
theorem cInts : Try.prog.cellsOf 25 = 1 := by kernel_rfl
theorem cStrings : Try.prog.cellsOf 41 = 1 := by kernel_rfl
theorem cOp : Try.prog.cellsOf 40 = 3 := by kernel_rfl
theorem cReply : Try.prog.cellsOf 43 = 4 := by kernel_rfl
theorem cMoment : Try.prog.cellsOf 45 = 9 := by kernel_rfl
theorem bInt : Try.prog.bytesOf 3 = 8 := by kernel_rfl
theorem bString : Try.prog.bytesOf 9 = 16 := by kernel_rfl
theorem bMoment : Try.prog.bytesOf 45 = 120 := by kernel_rfl
def gInt (n : Int) : Prop := (Lit.int .i64 n).wf = true
def gStr (s : ByteArray) : Prop := s.size ≤ 140737488351232
structure gInts (l : List Int) : Prop where
  len : l.length * 8 ≤ 140737488351232
  each : ∀ a ∈ l, gInt a
structure gStrs (l : List ByteArray) : Prop where
  len : l.length * 16 ≤ 140737488351232
  each : ∀ a ∈ l, gStr a
structure gOp (o : S40) : Prop where
  kind : gInt o.f0
  key : gInt o.f1
  val : gStr o.f2
structure gReply (r : S43) : Prop where
  val : gStr r.f1
  keys : gInts r.f2
  vals : gStrs r.f3
structure gMoment (m : S45) : Prop where
  client : gInt m.f0
  op : gOp m.f2
  reply : gReply m.f3
structure gMoments (l : List S45) : Prop where
  len : l.length * 120 ≤ 140737488351232
  each : ∀ m ∈ l, gMoment m
theorem oInt : Opens enc Try.prog W sp held 3 (Kd.int .i64) gInt := opens_int Try.underlying3
theorem oBool : Opens enc Try.prog W sp held 4 Kd.bool (fun _ => True) := opens_bool Try.underlying4
theorem oString : Opens enc Try.prog W sp held 9 Kd.string gStr := opens_string Try.underlying9
theorem oInts : Opens enc Try.prog W sp held 25 (Kd.slice 3 (Kd.int .i64)) gInts := (opens_slice Try.underlying25 cInt bInt oInt).imp fun _ h => ⟨h.1, h.2.2⟩
theorem oStrings : Opens enc Try.prog W sp held 41 (Kd.slice 9 Kd.string) gStrs := (opens_slice Try.underlying41 cString bString oString).imp fun _ h => ⟨h.1, h.2.2⟩
theorem oOp : Opens enc Try.prog W sp held 40 k40 gOp :=
  (opens_struct (fun x : S40 => (x.f0, x.f1, x.f2)) (fun a => ⟨a.1, a.2.1, a.2.2⟩) (fun _ => rfl) Try.underlying40 cOp (opensF_cons rfl cInt oInt (opensF_cons rfl cInt oInt (opensF_one rfl cString oString)))).imp fun _ h => ⟨h.1, h.2.1, h.2.2⟩
theorem oReply : Opens enc Try.prog W sp held 43 k43 gReply :=
  (opens_struct (fun x : S43 => (x.f0, x.f1, x.f2, x.f3)) (fun a => ⟨a.1, a.2.1, a.2.2.1, a.2.2.2⟩) (fun _ => rfl) Try.underlying43 cReply (opensF_cons rfl cBool oBool (opensF_cons rfl cString oString (opensF_cons rfl cInts oInts (opensF_one rfl cStrings oStrings))))).imp fun _ h => ⟨h.2.1, h.2.2.1, h.2.2.2⟩
theorem oMoment : Opens enc Try.prog W sp held 45 k45 gMoment :=
  (opens_struct (fun x : S45 => (x.f0, x.f1, x.f2, x.f3)) (fun a => ⟨a.1, a.2.1, a.2.2.1, a.2.2.2⟩) (fun _ => rfl) Try.underlying45 cMoment (opensF_cons rfl cInt oInt (opensF_cons rfl cBool oBool (opensF_cons rfl cOp oOp (opensF_one rfl cReply oReply))))).imp fun _ h => ⟨h.1, h.2.2.1, h.2.2.2⟩
theorem oMoments : Opens enc Try.prog W sp held 22 (Kd.slice 45 k45) gMoments := (opens_slice Try.underlying22 cMoment bMoment oMoment).imp fun _ h => ⟨h.1, h.2.2⟩
theorem history_open {A : Option Addr} {n c : Nat} {d : DataW H} {p : List MemPlace} {base : Nat} (ht : DataW.Trod enc Try.prog W base sp held 22 (.slice A n c) d p) (hw : wOk Try.prog 22 d) :
    ∃ l : List S45, n = l.length ∧ l.length ≤ c ∧ Kd.C k45 W A l.length l ∧ gMoments l := opens_arg oMoments ht hw
end
end Go.Proofs.Ytfahoomkpammiaa
namespace Go.Proofs.Ytfahoomkpammiaa
open Go.ChangeShapes Go.WideShapes Go.ChangeAt Go.RowKit Go.Deep
theorem own : ownKnob Try.prog.godebug = none := by kernel_rfl
theorem laidOut : laidOutB Try.prog = true := by kernel_rfl
section
variable {H : Type} {enc : TypeId × Value → H} {P : Program} {w : World} {base : Nat} {spare : Nat → Bool} {held : Bool}
end
end Go.Proofs.Ytfahoomkpammiaa
