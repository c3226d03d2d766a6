/- Steps towards the law (texts of this seat, put into one). No conditions of its own beyond those that its theorems name. -/
import Derived.Test.YtihjpbalkjhjbaaZO0
import Derived.Deep.RegionLaw
import Derived.BigQuiet
import Derived.Test.YtihjpbalkjhjbaaPTableEndsx1
import Derived.Laws.MakeOwn
import Derived.Test.YtihjpbalkjhjbaaGX
import Derived.Test.YtihjpbalkjhjbaaProg
import Derived.OrdersHeld
import Derived.Laws.Rows
import Derived.StillTailTactics
import Derived.Test.YtihjpbalkjhjbaaRows
import Derived.Test.YtihjpbalkjhjbaaWWords
import Derived.Deep.Slices
import Derived.ChangeArms
import Derived.SizedLaws
import Derived.ProofKit
import Derived.OpenShut
import Derived.ShutString
import Derived.ChangeOld
import Derived.Below
import Derived.Deep.Fields
import Derived.ChangeSame
namespace Go.Proofs.Ytihjpbalkjhjbaa
open Go.RowKit Go.MapKept Go.MuLone Go.Shelf Go.Proofs.YtihjpbalkjhjbaaW.PrintWords
def opV (o : POp) : List Value := [.int .i64 o.f0, .int .i64 o.f1, .string o.f2]
/-- a client's calls, in a row of their own -/
abbrev OpsRow (w : World) (base : Nat) (v : Value) (ops : List POp) : Prop := OwnRow (fun (o : POp) cs => cs = opV o) 23 3 w base v ops
theorem OpsRow.at {w : World} {base : Nat} {v : Value} {ops : List POp} (h : OpsRow w base v ops) : OpsAt w v ops := by
  obtain ⟨inner, ho, hr⟩ := h
  rcases ho.2 with ⟨rfl, h0⟩ | ⟨g, cap, cur, rfl, hb, hg, hn, hm, hs, ht⟩
  · exact .inl ⟨rfl, List.eq_nil_of_length_eq_zero h0⟩
  · unfold maxLen at hm
    refine .inr ⟨g, 0, cap, cur, rfl, hn, by omega, hg, fun j o hj => ?_⟩
    have hR : (inner.drop (j * 3)).take 3 = opV o := hr.2 j o hj
    have e : ∀ k x, k < 3 → (opV o)[k]? = some x → cur[j * 3 + k]? = some x := fun k x hk hx => by
      rw [← hR, List.getElem?_take, if_pos hk, List.getElem?_drop, ← ht, List.getElem?_take] at hx
      split at hx
      · simpa using hx
      · cases hx
    rw [Nat.zero_add]
    exact ⟨e 0 _ (by omega) rfl, e 1 _ (by omega) rfl, e 2 _ (by omega) rfl⟩
theorem ownRow_keep {α : Type} {R : α → List Value → Prop} {e size : Nat} {w w1 : World} {base : Nat} {v : Value} {xs : List α} (h : OwnRow R e size w base v xs) (hk : ∀ g, v.ownBlock = some g → w1.heap[g]? = w.heap[g]?) : OwnRow R e size w1 base v xs := by
  obtain ⟨inner, ho, hr⟩ := h
  exact ⟨inner, own_move ho hk, hr⟩
/-- a client that is being made, its calls so far -/
structure FillIs (w0 w : World) (vo : Value) (ops : List POp) : Prop where
  fr : Fresh w0 w
  cl : w.heap[w0.heap.size]? = some (.cells #[vo, .bool false, .int .i64 0, .pointer none] 100 (0, 0))
  row : OpsRow w w0.heap.size vo ops
theorem FillIs.start (w0 : World) : FillIs w0 (w0.alloc (.cells #[.slice none 0 0, .bool false, .int .i64 0, .pointer none] 100)) (.slice none 0 0) [] :=
  ⟨alloc_only _ _, new_blk _, OwnRow.none_ _ _ _ _ _⟩
theorem FillIs.fresh {w0 w w1 : World} {vo : Value} {ops : List POp} (h : FillIs w0 w vo ops) (hf : Fresh w w1) : FillIs w0 w1 vo ops :=
  ⟨h.fr.trans' hf, hf.blk h.cl fun q => q, ownRow_keep h.row fun g hg => by
    obtain ⟨inner, ho, _⟩ := h.row
    exact hf.block g (ho.lt g hg).2 fun q => q⟩
theorem FillIs.add {w0 V w3 : World} {vo : Value} {ops : List POp} {o : POp} (h : FillIs w0 V vo ops) {inner : List Value} (hr : Reps (fun (o : POp) cs => cs = opV o) 3 ops inner) {A : Option Addr} {C : Nat} (hv : vo.ownBlock = none ∨ ∃ g, vo.ownBlock = some g ∧ ∃ cells, V.heap[g]? = some (.cells cells 23 (0, 0)))
    (hvb : ∀ g, vo.ownBlock = some g → w0.heap.size ≤ g)
    (hown : w3.ownsRow w0.heap.size 23 3 (.slice A (ops.length + 1) C) (ops.length + 1) (inner ++ opV o)) (hg : V.grownBy w3 vo.ownBlock) :
    FillIs w0 (w3.setCell ⟨w0.heap.size, 0, none⟩ (.slice A (ops.length + 1) C)) (.slice A (ops.length + 1) C) (ops ++ [o]) := by
  have hb3 : w3.heap[w0.heap.size]? = some (.cells #[vo, .bool false, .int .i64 0, .pointer none] 100 (0, 0)) := blk_grown h.cl hg fun e => by
    rcases hv with q | ⟨g, q, cells, q2⟩
    · rw [q] at e; cases e
    · rw [q] at e
      injection e with e
      rw [← e, h.cl] at q2
      injection q2 with q2
      injection q2 with _ q2 _
      exact absurd q2 (by decide)
  have hl : (ops ++ [o]).length = ops.length + 1 := by simp
  refine ⟨(h.fr.grown hg fun g q => .inr (hvb g q)).setCell (p := ⟨w0.heap.size, 0, none⟩) (.inr (Nat.le_refl _)) _, by simpa using blk_set hb3 0 (.slice A (ops.length + 1) C), ?_⟩
  have h0 : OpsRow w3 w0.heap.size (.slice A (ops.length + 1) C) (ops ++ [o]) := ⟨inner ++ opV o, by rw [hl]; exact hown, hr.snoc rfl rfl⟩
  refine ownRow_keep h0 fun g q => Below.heap_setCell _ ⟨w0.heap.size, 0, none⟩ _ g fun e => ?_
  obtain ⟨cells, q2⟩ := own_cells hown q
  have e2 : g = w0.heap.size := e
  rw [e2, hb3] at q2
  injection q2 with q2
  injection q2 with _ q2 _
  exact absurd q2 (by decide)
/-- a client more -/
theorem StIs.more {w w3 : World} {base sb : Nat} {S : PSt} {g : Gh} (h : StIs w base sb S g) {cbn : Nat} {vo : Value} {ops : List POp} (hb : w.heap[cbn]? = some (.cells #[vo, .bool false, .int .i64 0, .pointer none] 100 (0, 0))) (hops : OpsAt w vo ops)
    (hne : ∀ i, i < S.cls.length → g.cb i ≠ cbn) (hbase : base ≤ cbn) (hlen : S.cls.length < 64) {A : Option Addr} {C : Nat} {old : List Value} (hold : old = (List.range S.cls.length).map fun i => .pointer (some ⟨g.cb i, 0, none⟩))
    (hown : w3.ownsRow base 97 1 (.slice A (S.cls.length + 1) C) (S.cls.length + 1) (old ++ [.pointer (some ⟨cbn, 0, none⟩)])) (hg : w.grownBy w3 g.vc.ownBlock) :
    ∃ g', StIs (w3.setCell ⟨sb, 9, none⟩ (.slice A (S.cls.length + 1) C)) base sb ⟨S.cls ++ [newC ops], S.lk, S.L, S.hist⟩ g' := by
  have hg0 : ∀ b, g.vc.ownBlock = some b → ∃ cells, w.heap[b]? = some (.cells cells 97 (0, 0)) := fun b q => own_cells h.crow q
  have hk1 : KeepT w w3 fun t => t ≠ 97 := fun b cells t hb ht => hg.block b (blk_lt hb) fun e => by
    obtain ⟨c2, h2⟩ := hg0 b e.symm
    rw [h2] at hb
    injection hb with hb
    injection hb with _ hb _
    exact ht hb.symm
  have hs3 : w3.heap[sb]? = some (.cells (stageC g.tb S.lk g.vc g.vh) 96 (0, 0)) := (hk1 _ _ _ h.blk (by decide)).trans h.blk
  have hk : KeepT w (w3.setCell ⟨sb, 9, none⟩ (.slice A (S.cls.length + 1) C)) fun t => t ≠ 97 ∧ t ≠ 96 := (hk1.mono fun t q => q.1).trans (KeepT.set hs3 (fun q => q.2 rfl) 9 _)
  have hl : (S.cls ++ [newC ops]).length = S.cls.length + 1 := by simp
  have hold2 : old ++ [Value.pointer (some ⟨cbn, 0, none⟩)] = (List.range (S.cls.length + 1)).map fun i => .pointer (some ⟨if i = S.cls.length then cbn else g.cb i, 0, none⟩) := by
    rw [List.range_succ, List.map_append, hold]
    congr 1
    · refine List.map_congr_left fun i hi => ?_
      have := List.mem_range.1 hi
      rw [if_neg (by omega)]
    · simp
  refine ⟨{ g with vc := .slice A (S.cls.length + 1) C, cb := fun i => if i = S.cls.length then cbn else g.cb i, vo := fun i => if i = S.cls.length then vo else g.vo i, vr := fun i => if i = S.cls.length then .pointer none else g.vr i },
    blk_set hs3 9 _, ?_, h.rising, ?_, fun i c hc => ?_, fun i j hi hj => ?_, OutRowT.keepT h.hrow hk ⟨by decide, by decide⟩, h.hlen, fun j m q h4 h5 => (h.hmem j m q h4 h5).keepT hk ⟨by decide, by decide⟩ ⟨by decide, by decide⟩, by rw [hl]; omega, h.outS, h.outT, fun i hi => ?_⟩
  · refine (h.tab.keepT hk1 (by decide) (by decide) (fun i hi => hg.block _ (h.tab.maps i hi).lt fun e => ?_) hg.size).set hs3 (by decide) (by decide) 9 _
    obtain ⟨c2, h2⟩ := hg0 _ e.symm
    obtain ⟨es, ck, q, _⟩ := h.tab.maps i hi
    rw [q] at h2
    cases h2
  · show World.ownsRow _ base _ 1 _ (S.cls ++ [newC ops]).length ((List.range (S.cls ++ [newC ops]).length).map fun i => .pointer (some ⟨if i = S.cls.length then cbn else g.cb i, 0, none⟩))
    rw [hl, ← hold2]
    exact row_keepT hown (KeepT.set (ts := fun t => t = 97) hs3 (by decide) 9 _) rfl
  · have hc' : (S.cls ++ [newC ops])[i]? = some c := hc
    by_cases hi : i < S.cls.length
    · rw [List.getElem?_append_left hi] at hc'
      have q := h.cl i c hc'
      simp only [if_neg (show ¬ i = S.cls.length by omega)]
      exact ⟨(hk _ _ _ q.blk ⟨by decide, by decide⟩).trans q.blk, q.ops.keepT hk ⟨by decide, by decide⟩, q.rep.keepT hk ⟨by decide, by decide⟩ ⟨by decide, by decide⟩ ⟨by decide, by decide⟩, q.small⟩
    · have hi2 : i = S.cls.length := by
        have := (List.getElem?_eq_some_iff.1 hc').1
        rw [hl] at this
        omega
      subst hi2
      rw [List.getElem?_append_right (Nat.le_refl _), Nat.sub_self] at hc'
      cases hc'
      simp only [if_true]
      exact ⟨(hk _ _ _ hb ⟨by decide, by decide⟩).trans hb, hops.keepT hk ⟨by decide, by decide⟩, rfl, Nat.zero_le _⟩
  · have hi' : i < (S.cls ++ [newC ops]).length := hi
    have hj' : j < (S.cls ++ [newC ops]).length := hj
    rw [hl] at hi' hj'
    show (if i = S.cls.length then cbn else g.cb i) = (if j = S.cls.length then cbn else g.cb j) → i = j
    intro e
    split at e <;> split at e
    · omega
    · exact absurd e.symm (hne j (by omega))
    · exact absurd e (hne i (by omega))
    · exact h.cinj i j (by omega) (by omega) e
  · have hi' : i < (S.cls ++ [newC ops]).length := hi
    rw [hl] at hi'
    show base ≤ if i = S.cls.length then cbn else g.cb i
    split
    · exact hbase
    · exact h.outC i (by omega)
theorem init_take (l0 : List (List POp)) {i : Nat} (hi : i < l0.length) : initP (l0.take (i + 1)) = ⟨(initP (l0.take i)).cls ++ [newC ((l0[i]'hi).filter okB)], (initP (l0.take i)).lk, (initP (l0.take i)).L, (initP (l0.take i)).hist⟩ := by
  unfold initP
  rw [List.take_succ_eq_append_getElem hi, List.map_append]
  rfl
theorem init_len (l0 : List (List POp)) : (initP l0).cls.length = l0.length := by simp [initP]
/-- an empty stage -/
theorem StIs.none {w : World} {base tb : Nat} {lab : TLab} (h : TabAt w tb lab fun _ => none) (hl : ∀ b, lab b ≠ Option.none → base ≤ b) (hb : base ≤ w.heap.size) :
    ∃ g, StIs (w.alloc (.cells (stageC tb (fun _ => false) (.slice Option.none 0 0) (.slice Option.none 0 0)) 96)) base w.heap.size (initP []) g := by
  obtain ⟨bm, f, cs, h⟩ := h
  refine ⟨⟨tb, lab, bm, f, cs, .slice Option.none 0 0, .slice Option.none 0 0, fun _ => 0, fun _ => .slice Option.none 0 0, fun _ => .slice Option.none 0 0, fun _ => .slice Option.none 0 0, fun _ => .slice Option.none 0 0, []⟩,
    new_blk _, h.fresh (alloc_only _ _), List.Pairwise.nil, ⟨rfl, .inl ⟨rfl, rfl⟩⟩, fun i c hc => by simp [initP] at hc, fun i j hi => by simp [initP] at hi, OwnRow.none_ _ _ _ _ _, rfl, fun j m r hm => by simp [initP] at hm, Nat.zero_le _, hb, hl, fun i hi => by simp [initP] at hi⟩
/-- a history that was handed back: its rows, each reply's lists -/
def HistIs (w : World) (base : Nat) (v : Value) (H : List PMo) : Prop := ∃ rows, OutRowT w base v rows ∧ rows.length = H.length ∧ ∀ (j : Nat) (m : PMo) (r : List Value), H[j]? = some m → rows[j]? = some r → MoIs w base m r
end Go.Proofs.Ytihjpbalkjhjbaa
namespace Go.Proofs.Ytihjpbalkjhjbaa
open Go.RowKit Go.MapKept Go.MuLone Go.Shelf Go.Proofs.YtihjpbalkjhjbaaW.PrintWords Go.Proofs.Ytihjpbalkjhjbaa.PTableEnds
theorem tinfoOp : (Try.prog.info? 23).map (fun i => (i.zero, i.size, i.bytes)) = some (some (.agg #[(.int .i64 0), (.int .i64 0), (.string ⟨#[]⟩)]), 3, 32) := by kernel_rfl
theorem tinfoPCl : (Try.prog.info? 97).map (fun i => (i.zero, i.size, i.bytes)) = some (some (.pointer none), 1, 8) := by kernel_rfl
/-- what Play leaves -/
def PlayPost (w w' : World) (e : Ending) (l0 : List (List POp)) (scr : List Int) : Prop :=
  ∃ v H, e = .returned v ∧ PlayEnd l0 scr H ∧ HistIs w' w.heap.size v H ∧ Fresh w w'
theorem HistIs.lower {w : World} {base base' : Nat} {v : Value} {H : List PMo} (h : HistIs w base v H) (hb : base' ≤ base) : HistIs w base' v H := by
  obtain ⟨rows, ⟨inner, ho, hr⟩, h2, h3⟩ := h
  exact ⟨rows, ⟨inner, own_lower ho hb, hr⟩, h2, fun j m r q1 q2 => by
    obtain ⟨v7, v8, k1, k2, k3⟩ := h3 j m r q1 q2
    exact ⟨v7, v8, k1, own_lower k2 hb, own_lower k3 hb⟩⟩
/-- behind the making of the first i clients -/
structure MadeIs (w wr : World) (sb : Nat) (vs : Value) (l0 : List (List POp)) (i : Nat) (g : Gh) : Prop where
  st : StIs wr (w.heap.size + 1) sb (initP (l0.take i)) g
  fr : Fresh (w.alloc (.cells #[vs] 27)) wr
theorem MadeIs.box {w wr : World} {sb : Nat} {vs : Value} {l0 : List (List POp)} {i : Nat} {g : Gh} (h : MadeIs w wr sb vs l0 i g) : wr.heap[w.heap.size]? = some (.cells #[vs] 27 (0, 0)) := h.fr.blk (new_blk _) fun q => q
/-- in the rounds -/
structure RoundIs (w wr : World) (sb : Nat) (M : Nat) (S0 : PSt) (r0 : Int × List Int) (S : PSt) (r : Int × List Int) (g : Gh) : Prop where
  pl : Plays S0 r0 S r
  st : StIs wr (w.heap.size + 1) sb S g
  box : ∃ v, wr.heap[w.heap.size]? = some (.cells #[v] 27 (0, 0)) ∧ ScrIs wr w.heap.size v r.2
  fr : Fresh w wr
  inv : PInv M S
  can : 0 ≤ r.1 → canAt S r.1.toNat = true
theorem len_le_sum {l : List POp} : ∀ {l0 : List (List POp)}, l ∈ l0 → l.length ≤ (l0.map List.length).sum
  | [], h => by cases h
  | a :: l0, h => by
    simp only [List.map_cons, List.sum_cons]
    rcases List.mem_cons.1 h with rfl | q
    · omega
    · have := len_le_sum q
      omega
set_option maxRecDepth 100000 in
set_option maxHeartbeats 4000000 in
theorem play_walk (w : World) (A : Option Addr) (c0 : Nat) (l0 : List (List POp)) (hr : Kd.C (Kd.slice 23 k23) w A l0.length l0) (vs : Value) (scr : List Int) (hs : ScrIs w w.heap.size vs scr) (hM : 11 * (l0.map List.length).sum ≤ 16777216) :
    Calls Try.prog 16 #[.slice A l0.length c0, vs] w fun e w' => PlayPost w w' e l0 scr := by
  obtain ⟨io, ho0, hoz0, hoz1, hoz2⟩ := info_parts tinfoOp
  have HIO := Lib.hid (And.intro ho0 (And.intro hoz0 (And.intro hoz1 hoz2)))
  obtain ⟨ic, hc0', hcz0, hcz1, hcz2⟩ := info_parts tinfoPCl
  have HIC := Lib.hid (And.intro hc0' (And.intro hcz0 (And.intro hcz1 hcz2)))
  clear ho0 hoz0 hoz1 hoz2 hc0' hcz0 hcz1 hcz2
  have hlen : l0.length ≤ 9223372036854775807 := hr.2.1
  obtain ⟨Av, cv, rfl⟩ : ∃ Av cv, vs = .slice Av scr.length cv := by
    rcases hs with ⟨q, A, C, q2⟩ | ⟨ib, off, C, q, _⟩
    · exact ⟨A, C, by rw [q2, q]; rfl⟩
    · exact ⟨_, _, q⟩
  have HR := Lib.hid (And.intro hr (And.intro hs hM))
  clear hr hs hM
  obtain ⟨ns, hns⟩ : ∃ ns, ns = scr.length := ⟨_, rfl⟩
  rw [← hns] at HR ⊢
  clear hns
  by_cases hbig : 64 < l0.length
  · have hbI : (64 : Int) < (l0.length : Int) := by omega
    go_enter Try.func16, Try.ntmps16
    go_wp2_with fail
    go_ret
    refine ⟨.slice none 0 0, [], rfl, by unfold PlayEnd; rw [if_pos hbig], ⟨[], OwnRow.none_ _ _ _ _ _, rfl, fun j m r hm => by simp at hm⟩, alloc_only _ _⟩
  · have hbI : ¬ (64 : Int) < (l0.length : Int) := by omega
    have HT := Lib.hid (tnew (w.alloc (.cells #[.slice Av ns cv] 27)))
    go_enter Try.func16, Try.ntmps16
    go_wp2_with fail
    refine HT.out.mono ?_
    rintro e w1 ⟨tb, lab, rfl, htab, hf1, hlab⟩
    obtain ⟨g0, hst0⟩ := StIs.none (base := w.heap.size + 1) htab (fun b q => by have := hlab b q; simpa using this) (by have := hf1.size; simpa using this)
    have HM0 := Lib.hid (show MadeIs w (w1.alloc (.cells (stageC tb (fun _ => false) (.slice none 0 0) (.slice none 0 0)) 96)) w1.heap.size (.slice Av ns cv) l0 0 g0 from ⟨hst0, hf1.alloc _⟩)
    unfold stageC at HM0
    clear htab hf1 hlab hst0 HT
    obtain ⟨sb, hsb⟩ : ∃ sb, sb = w1.heap.size := ⟨_, rfl⟩
    go_wp2_with fail
    rw [← hsb] at HM0 ⊢
    clear hsb
    go_loopw [20] (fun s20 wr => ∃ (i : Nat) (g : Gh), i ≤ l0.length ∧ s20 = .int .i64 i ∧ MadeIs w wr sb (.slice Av ns cv) l0 i g) (fun s20 _ => l0.length - (intOf s20).toNat)
    case atStart => exact ⟨0, g0, Nat.zero_le _, rfl, HM0.out⟩
    case round =>
      obtain ⟨wo, rfl⟩ : ∃ wo : World, wo = wr := ⟨_, rfl⟩
      obtain ⟨i, g, hi, rfl, hm⟩ := hrel
      have HMM := Lib.hid hm
      clear hm
      by_cases hlt : i < l0.length
      · have hlD : decide ((i : Int) < (l0.length : Int)) = true := by simp; omega
        have hB : Below w.heap.size w wo := ((Only.refl w fun _ => False).alloc _ |>.trans' (HMM.out.fr.mono fun _ _ q => q)).below (Nat.le_refl _) fun _ q => q.elim
        obtain ⟨ad, A0, c1, hA, x0, hl0, hC⟩ := at_L3 (Kd.C_below HR.out.1 hB) i (by omega) (by omega)
        subst hA
        simp only [Int.toNat_natCast] at x0 hl0 hC
        obtain ⟨ops, hops⟩ : ∃ ops, ops = rd_L3 l0 (i : Nat) := ⟨_, rfl⟩
        rw [← hops] at x0 hl0 hC
        have hoe : ops = l0[i]'hlt := by rw [hops]; unfold rd_L3; simp [hlt]
        obtain ⟨m, hm⟩ : ∃ m, m = ops.length := ⟨_, rfl⟩
        rw [← hm] at x0 hl0
        have hm1 : m ≤ 9223372036854775807 := by rw [hm]; exact hC.2.1
        have HC := Lib.hid (And.intro hC (And.intro hoe hm))
        obtain ⟨cb, hcb⟩ : ∃ cb, cb = wo.heap.size := ⟨_, rfl⟩
        have hcw : cb ≤ wo.heap.size := by omega
        have hst := FillIs.start wo
        have hwb : w.heap.size + 1 ≤ cb := by
          have := HMM.out.fr.size
          simp at this
          omega
        have HST := Lib.hid hst
        have HCB := Lib.hid hcb
        clear hC hops hoe hm hst hB
        go_wp2_with fail
        rw [← hcb]
        clear hcb
        go_loopw [28] (fun s28 wr => ∃ (j : Nat) (vo : Value), j ≤ m ∧ s28 = .int .i64 j ∧ FillIs wo wr vo ((ops.take j).filter okB)) (fun s28 _ => m - (intOf s28).toNat)
        case atStart => exact ⟨0, _, Nat.zero_le _, rfl, HST.out⟩
        case round =>
          obtain ⟨j, vo, hj, rfl, hf⟩ := hrel
          have HF := Lib.hid hf
          clear hf
          by_cases hlt2 : j < m
          · have hjD : decide ((j : Int) < (m : Int)) = true := by simp; omega
            have hB2 : Below wo.heap.size wo wr := HF.out.fr.below (Nat.le_refl _) fun _ q => q.elim
            obtain ⟨ad2, hA2, y0, y1, y2⟩ := at_T23 (w := wr) (n := ops.length) (Kd.C_below HC.out.1 hB2) j (by omega) (by rw [← HC.out.2.2]; omega)
            subst hA2
            simp only [Int.toNat_natCast] at y0 y1 y2
            obtain ⟨o, ho⟩ : ∃ o, o = rd_T23 ops (j : Nat) := ⟨_, rfl⟩
            rw [← ho] at y0 y1 y2
            have hoe2 : (ops.take (j + 1)).filter okB = (ops.take j).filter okB ++ if okB o = true then [o] else [] := by
              have hjl : j < ops.length := by rw [← HC.out.2.2]; exact hlt2
              have : o = ops[j]'hjl := by rw [ho]; unfold rd_T23; simp [hjl]
              rw [List.take_succ_eq_append_getElem hjl, List.filter_append, ← this]
              congr 1
              by_cases q : okB o = true
              · simp [q]
              · simp [q]
            have HO := Lib.hid hoe2
            clear ho hB2 hoe2
            have hcase : (o.f0 < 1 ∨ (1 ≤ o.f0 ∧ 3 < o.f0)) ∨ (1 ≤ o.f0 ∧ o.f0 ≤ 3) := by omega
            rcases hcase with (hno | ⟨hno1, hno⟩) | ⟨hy1, hy2⟩
            · have hok : okB o = false := by unfold okB; simp; omega
              have HOK := Lib.hid hok
              clear hok
              go_wp2_with fail
              go_roundw
              case rel => exact ⟨j + 1, vo, by omega, by go_num, by rw [HO.out, HOK.out, if_neg (by simp), List.append_nil]; exact HF.out.fresh (alloc_only _ _)⟩
              case measure => simp [intOf]; omega
            · have hok : okB o = false := by unfold okB; simp; omega
              have HOK := Lib.hid hok
              clear hok
              go_wp2_with fail
              go_roundw
              case rel => exact ⟨j + 1, vo, by omega, by go_num, by rw [HO.out, HOK.out, if_neg (by simp), List.append_nil]; exact HF.out.fresh (alloc_only _ _)⟩
              case measure => simp [intOf]; omega
            · have hok : okB o = true := by unfold okB; simp; omega
              have HOK := Lib.hid hok
              clear hok
              go_upto_region 12 with fail
              refine nameW ?_
              intro V hV
              have hfV : FillIs wo V vo ((ops.take j).filter okB) := by rw [hV]; exact HF.out.fresh (alloc_only _ _)
              have hd : V.heap[wr.heap.size]? = some (.cells #[.int .i64 o.f0, .int .i64 o.f1, .string o.f2] 23 (0, 0)) := by rw [hV]; exact new_blk _
              have d0 : V.cell? ⟨wr.heap.size, 0, none⟩ = some (.int .i64 o.f0) := blk_cell hd rfl
              have d1 : V.cell? ⟨wr.heap.size, 1, none⟩ = some (.int .i64 o.f1) := blk_cell hd rfl
              have d2 : V.cell? ⟨wr.heap.size, 2, none⟩ = some (.string o.f2) := blk_cell hd rfl
              have hdl := blk_lt hd
              have hcl := hfV.cl
              rw [← HCB.out] at hcl
              have p0 : V.cell? ⟨cb, 0, none⟩ = some vo := blk_cell hcl rfl
              have hcbl := blk_lt hcl
              obtain ⟨inner, hown0, hreps⟩ := hfV.row
              generalize hfo : (ops.take j).filter okB = fo at *
              have hfl : fo.length ≤ 16777216 := by
                have h1 := List.length_filter_le okB (ops.take j)
                have h2 := List.length_take_le j ops
                have h3 := len_le_sum (l := ops) (l0 := l0) (by rw [HC.out.2.1]; exact List.getElem_mem hlt)
                have h4 := HR.out.2.2
                rw [hfo] at h1
                have h5 : (ops.take j).length ≤ ops.length := by simp; omega
                omega
              obtain ⟨A3, C3, hvo⟩ := own_slice hown0
              subst hvo
              have hne : ∀ b, (Value.slice A3 fo.length C3).ownBlock = some b → b ≠ cb := fun b q e => by
                obtain ⟨cells, q2⟩ := own_cells hown0 q
                rw [e, hcl] at q2
                injection q2 with q2
                injection q2 with _ q2 _
                exact absurd q2 (by decide)
              have HOW := Lib.hid hown0
              have HX := Lib.hid (And.intro hfV (And.intro hreps (And.intro hfo hV)))
              have HNE := Lib.hid (And.intro hne hcl)
              have hbV2 : wo.heap.size ≤ V.heap.size := hfV.fr.size
              clear hfV hd hcl hown0 hreps hfo hV hne y0 y1 y2
              go_region_law
                ((refine step_app _ (by rfl) _ _ _ (by rfl) wo.heap.size 23 io _ 3 32 Try.underlying41 HIO.out.1 HIO.out.2.1 HIO.out.2.2.1 HIO.out.2.2.2 rfl (by omega) (.slice A3 fo.length C3) fo.length inner (by rfl) ((HOW.out.alloc _).drew) V.heap.size 1 1 [.int .i64 o.f0, .int .i64 o.f1, .string o.f2] 23 (0, 0) (by rfl) (new_blk _) (by rfl) (by simp [Value.oneCell']) (by unfold maxLen; omega) (by omega) (by simp; omega) ?_; intro A' C' w3 hown hgrow hat; have hs3 := blk_grown (w := (V.alloc (.cells #[.int .i64 o.f0, .int .i64 o.f1, .string o.f2] 23)).drew) (blk_alloc HNE.out.2 _) hgrow (fun e => HNE.out.1 cb e.symm rfl); have j1 : w3.cell? ⟨cb, 0, none⟩ = some (.slice A3 fo.length C3) := blk_cell hs3 rfl; have j2 := blk_frozen hs3 0; have j3 := blk_lt hs3; have HW := Lib.hid (And.intro hown hgrow); clear hown hgrow hat hs3))
              all_goals (
                go_wp2_with fail
                go_roundw
                case rel =>
                  obtain ⟨hfV, hreps, hfo, hV⟩ := HX.out
                  obtain ⟨hown, hgrow⟩ := HW.out
                  have hg2 : V.grownBy w3 (Value.slice A3 fo.length C3).ownBlock := alloc_grown ⟨hgrow.os, hgrow.tape, hgrow.output, hgrow.size, hgrow.block⟩
                  have hadd := hfV.add (o := o) hreps (A := A') (C := C') (by
                    cases A3 with
                    | none => exact .inl rfl
                    | some a => exact .inr ⟨_, rfl, own_cells HOW.out rfl⟩) (fun g q => (HOW.out.lt g q).1) hown hg2
                  refine ⟨j + 1, .slice A' (fo.length + 1) C', by omega, by go_num, ?_⟩
                  have ho2 := HO.out
                  rw [HOK.out, if_pos rfl] at ho2
                  rw [ho2, HCB.out]
                  exact hadd
                case measure => simp [intOf]; omega)
          · obtain rfl : j = m := by omega
            have hstw := HMM.out.st.fresh HF.out.fr
            have hcl := HF.out.cl
            rw [← HCB.out] at hcl
            have hfo : (ops.take j).filter okB = ops.filter okB := by rw [HC.out.2.2, List.take_length]
            have hil : (initP (l0.take i)).cls.length = i := by rw [init_len, List.length_take]; omega
            have hrow := hstw.crow
            obtain ⟨Ac, Cc, hvc⟩ := own_slice hrow
            have s9 : wr.cell? ⟨sb, 9, none⟩ = some g.vc := blk_cell hstw.blk rfl
            have hsbl := blk_lt hstw.blk
            rw [hil] at hvc hrow
            rw [hvc] at s9 hrow
            generalize hold : ((List.range i).map fun i => Value.pointer (some ⟨g.cb i, 0, none⟩)) = old at hrow
            have hne : ∀ b, (Value.slice Ac i Cc).ownBlock = some b → b ≠ sb := fun b q e => by
              obtain ⟨cells, q2⟩ := own_cells hrow q
              rw [e, hstw.blk] at q2
              injection q2 with q2
              injection q2 with _ q2 _
              exact absurd q2 (by decide)
            have hwr : w.heap.size + 1 ≤ wr.heap.size := by
              have := HF.out.fr.size
              omega
            have HY := Lib.hid (And.intro hstw (And.intro hcl (And.intro hfo (And.intro hil (And.intro hrow (And.intro hvc (And.intro hold hne)))))))
            clear hstw hcl hfo hil hrow hvc hold hne
            go_wp2_with (at_builtin; (refine wpl_app _ rfl _ _ 94 rfl (w.heap.size + 1) 97 ic (.pointer none) 1 8 Try.underlying94 HIC.out.1 HIC.out.2.1 HIC.out.2.2.1 HIC.out.2.2.2 rfl (by decide) (.slice Ac i Cc) i old rfl (row_fresh HY.out.2.2.2.2.1 (alloc_only _ _)) wr.heap.size 1 1 [.pointer (some ⟨cb, 0, none⟩)] 97 (0, 0) rfl (new_blk _) rfl (by simp [Value.oneCell']) (by unfold maxLen; omega) (by omega) (by simp; omega) ?_); intro A4 C4 w4 hown hgrow hat; have hs4 := blk_grown (w := wr.alloc (.cells #[.pointer (some ⟨cb, 0, none⟩)] 97)) (blk_alloc HY.out.1.blk _) hgrow (fun e => HY.out.2.2.2.2.2.2.2 sb e.symm rfl); have j1 : w4.cell? ⟨sb, 9, none⟩ = some g.vc := blk_cell hs4 rfl; have j2 := blk_frozen hs4 9; have j3 := blk_lt hs4; have HW := Lib.hid (And.intro hown hgrow); clear hown hgrow hat hs4)
            go_roundw
            case rel =>
              obtain ⟨hstw, hcl, hfo, hil, hrow, hvc, hold, hne⟩ := HY.out
              obtain ⟨hown, hgrow⟩ := HW.out
              have hfil := HF.out.fresh (alloc_only wr (.cells #[.pointer (some ⟨cb, 0, none⟩)] 97))
              rw [hfo] at hfil
              have hg2 : (wr.alloc (.cells #[.pointer (some ⟨cb, 0, none⟩)] 97)).grownBy w4 g.vc.ownBlock := by rw [hvc]; exact hgrow
              obtain ⟨g', hm⟩ := (hstw.fresh (alloc_only wr (.cells #[.pointer (some ⟨cb, 0, none⟩)] 97))).more (cbn := cb) (by have q := hfil.cl; rw [← HCB.out] at q; exact q) hfil.row.at (fun k hk => by
                rw [HCB.out]
                have := blk_lt (HMM.out.st.cl k _ (List.getElem?_eq_getElem hk)).blk
                omega) hwb (by rw [hil]; omega) (A := A4) (C := C4) (old := old) (by rw [hil]; exact hold.symm) (by rw [hil]; exact hown) hg2
              refine ⟨i + 1, g', by omega, by go_num, ?_, ?_⟩
              · rw [init_take l0 hlt, ← HC.out.2.1]
                rw [hil] at hm
                exact hm
              · refine (((HMM.out.fr.trans' HF.out.fr).alloc _).grown hg2 fun b q => .inr ?_).setCell (p := ⟨sb, 9, none⟩) (.inr ?_) _
                · have := (hstw.crow.lt b q).1
                  simpa using this
                · have := hstw.outS
                  simpa using this
            case measure => simp [intOf]; omega
      · obtain rfl : i = l0.length := by omega
        have hst := HMM.out.st
        rw [List.take_length] at hst
        have hfw : Fresh w wo := (alloc_only w _).trans' HMM.out.fr
        have hscr := HR.out.2.1.keep (base' := w.heap.size) (Nat.le_refl _) (hfw.mono fun _ _ q => q.elim) (Nat.le_refl _)
        have hpk := pick_walk hst _ scr (-1) HMM.out.box hscr (Nat.le_refl _)
        have HPK := Lib.hid hpk
        have HF0 := Lib.hid (And.intro hst hfw)
        clear hst hfw hscr hpk
        go_wp2_with fail
        refine HPK.out.mono ?_
        rintro e w2 ⟨rfl, ⟨v2, hv2, hs2⟩, ho2⟩
        have hR0 : RoundIs w w2 sb (mu (initP l0)) (initP l0) (pickP (initP l0) scr (-1)) (initP l0) (pickP (initP l0) scr (-1)) g :=
          ⟨.refl _ _, HF0.out.1.other HMM.out.box ho2, ⟨v2, hv2, hs2⟩, HF0.out.2.trans ho2 fun b q => .inr (by rw [q]; exact Nat.le_refl _), init_inv l0, pick_can⟩
        have HR0 := Lib.hid hR0
        clear hR0 hv2 hs2 ho2
        go_wp2_with fail
        go_loopg [11] (mu (initP l0)) (fun cnt s11 wr => ∃ (S : PSt) (r : Int × List Int) (g : Gh), cnt = mu S ∧ s11 = .int .i64 r.1 ∧ RoundIs w wr sb (mu (initP l0)) (initP l0) (pickP (initP l0) scr (-1)) S r g)
        case atStart => exact ⟨_, _, g, rfl, rfl, HR0.out⟩
        case round =>
          obtain ⟨S, r, g2, hcnt, rfl, hrd⟩ := hrel
          have HRD := Lib.hid hrd
          have HCN := Lib.hid hcnt
          clear hrd hcnt
          obtain ⟨x, hx⟩ : ∃ x, x = r.1 := ⟨_, rfl⟩
          rw [← hx]
          by_cases hneg : 0 ≤ x
          · have hMM : mu (initP l0) ≤ 16777216 := Nat.le_trans (mu_init l0) HR.out.2.2
            obtain ⟨n, hn⟩ : ∃ n : Nat, x = (n : Int) := ⟨x.toNat, by omega⟩
            have hcan := HRD.out.can (by rw [← hx]; exact hneg)
            rw [← hx, hn, Int.toNat_natCast] at hcan
            obtain ⟨c, o, rest, hc, hops, hok, hnx⟩ := next_valid HRD.out.inv hcan
            have hi1 := HRD.out.inv.hist
            have hi2 := HRD.out.inv.keys
            have hstep := step_walk HRD.out.st hc hops hok (by omega) (by omega)
            rw [← hnx, ← hn] at hstep
            obtain ⟨hI, hmu, hcl⟩ := HRD.out.inv.step hc hops
            rw [← hnx] at hI hmu hcl
            have HST := Lib.hid hstep
            have HI := Lib.hid (And.intro hI (And.intro hmu (And.intro hn hx)))
            clear hstep hI hmu hcl hcan hc hops hok hnx hi1 hi2 hn hx hMM
            go_wp2_with fail
            refine HST.out.mono ?_
            rintro e w3 ⟨rfl, g3, q1, q2, q3⟩
            obtain ⟨v, hv, hs⟩ := HRD.out.box
            have hv3 := q3.blk hv (by omega)
            have hs3 := hs.keep (base' := w.heap.size + 1) HRD.out.fr.size q3 (by omega)
            have HPK := Lib.hid (pick_walk q1 v r.2 x hv3 hs3 (Nat.le_refl _))
            have HQ := Lib.hid (And.intro q1 (And.intro q3 hv3))
            clear q1 q2 q3 hv hs hv3 hs3
            go_wp2_with fail
            refine HPK.out.mono ?_
            rintro e w4 ⟨rfl, ⟨v4, hv4, hs4⟩, ho4⟩
            have hR4 : RoundIs w w4 sb (mu (initP l0)) (initP l0) (pickP (initP l0) scr (-1)) (nextP S n) (pickP (nextP S n) r.2 x) g3 := by
              obtain ⟨hI, hmu, hn, hx⟩ := HI.out
              have hpl := HRD.out.pl.step (by rw [← hx]; exact hneg)
              rw [← hx, hn, Int.toNat_natCast, ← hn] at hpl
              exact ⟨hpl, HQ.out.1.other HQ.out.2.2 ho4, ⟨v4, hv4, hs4⟩, (HRD.out.fr.trans HQ.out.2.1 fun b q => .inr (by omega)).trans ho4 fun b q => .inr (by rw [q]; exact Nat.le_refl _), hI, pick_can⟩
            have HR4 := Lib.hid hR4
            clear hR4 hv4 hs4 ho4
            go_wp2_with fail
            go_roundg (mu (nextP S n))
            case measure => rw [HCN.out]; exact HI.out.2.1
            case rel => exact ⟨_, _, g3, rfl, rfl, HR4.out⟩
          · have s10 : wr.cell? ⟨sb, 10, none⟩ = some g2.vh := blk_cell HRD.out.st.blk rfl
            have HX := Lib.hid hx
            have hsbl := blk_lt HRD.out.st.blk
            clear hx
            go_wp2_with fail
            go_ret
            have hst := HRD.out.st
            exact ⟨g2.vh, S.hist, rfl, by unfold PlayEnd; rw [if_neg hbig]; exact ⟨S, r, HRD.out.pl, by rw [← HX.out]; omega, rfl⟩, HistIs.lower ⟨g2.rows, hst.hrow, hst.hlen, hst.hmem⟩ (by omega), HRD.out.fr⟩
end Go.Proofs.Ytihjpbalkjhjbaa
namespace Go.Proofs.Ytihjpbalkjhjbaa
open Go.RowKit Go.MapKept Go.MuLone Go.Shelf Go.Proofs.YtihjpbalkjhjbaaW.PrintWords
theorem Plays.trans {S0 S1 S2 : PSt} {r0 r1 r2 : Int × List Int} (h : Plays S0 r0 S1 r1) (k : Plays S1 r1 S2 r2) : Plays S0 r0 S2 r2 := by
  induction k with
  | refl => exact h
  | step _ hn ih => exact ih.step hn
theorem Plays.head {S0 S : PSt} {r0 r : Int × List Int} (h : Plays S0 r0 S r) : (S = S0 ∧ r = r0) ∨ (0 ≤ r0.1 ∧ Plays (nextP S0 r0.1.toNat) (pickP (nextP S0 r0.1.toNat) r0.2 r0.1) S r) := by
  induction h with
  | refl => exact .inl ⟨rfl, rfl⟩
  | step h hn ih =>
    rcases ih with ⟨rfl, rfl⟩ | ⟨q, k⟩
    · exact .inr ⟨hn, .refl _ _⟩
    · exact .inr ⟨q, k.step hn⟩
theorem Plays.rest {S0 S S' : PSt} {r0 r r' : Int × List Int} (h : Plays S0 r0 S r) : Plays S0 r0 S' r' → r'.1 < 0 → Plays S r S' r' := by
  induction h with
  | refl => exact fun k _ => k
  | step h hn ih =>
    intro k hr
    rcases (ih k hr).head with ⟨rfl, rfl⟩ | ⟨_, q⟩
    · omega
    · exact q
theorem Plays.one {S0 S S' : PSt} {r0 r r' : Int × List Int} (h : Plays S0 r0 S r) (hr : r.1 < 0) (k : Plays S0 r0 S' r') (hr' : r'.1 < 0) : S = S' := by
  rcases (h.rest k hr').head with ⟨q, _⟩ | ⟨q, _⟩
  · exact q.symm
  · omega
theorem PlayEnd.one {l0 : List (List POp)} {scr : List Int} {H H' : List PMo} (h : PlayEnd l0 scr H) (k : PlayEnd l0 scr H') : H = H' := by
  unfold PlayEnd at h k
  by_cases hl : 64 < l0.length
  · rw [if_pos hl] at h k
    rw [h, k]
  · rw [if_neg hl] at h k
    obtain ⟨S, r, h1, h2, h3⟩ := h
    obtain ⟨S', r', k1, k2, k3⟩ := k
    rw [h3, k3, h1.one h2 k1 k2]
/-- the play, by a number of rounds -/
def runP : Nat → PSt → Int × List Int → PSt × (Int × List Int)
  | 0, S, r => (S, r)
  | n + 1, S, r => if r.1 < 0 then (S, r) else runP n (nextP S r.1.toNat) (pickP (nextP S r.1.toNat) r.2 r.1)
theorem runP_plays : ∀ (n : Nat) (S : PSt) (r : Int × List Int), Plays S r (runP n S r).1 (runP n S r).2
  | 0, S, r => .refl S r
  | n + 1, S, r => by
    unfold runP
    by_cases h : r.1 < 0
    · rw [if_pos h]
      exact .refl S r
    · rw [if_neg h]
      exact ((Plays.refl S r).step (by omega)).trans (runP_plays n _ _)
theorem PlayEnd.run {l0 : List (List POp)} {scr : List Int} {H : List PMo} (h : PlayEnd l0 scr H) (n : Nat) (hl : ¬ 64 < l0.length) (hr : (runP n (initP l0) (pickP (initP l0) scr (-1))).2.1 < 0) : H = (runP n (initP l0) (pickP (initP l0) scr (-1))).1.hist :=
  h.one (by
    unfold PlayEnd
    rw [if_neg hl]
    exact ⟨_, _, runP_plays n _ _, hr, rfl⟩)
/-- the play of the one call -/
def liveO : POp := ⟨1, 1, ⟨#[120]⟩⟩
theorem live_end {H : List PMo} (h : PlayEnd [[liveO]] [] H) : H = [⟨0, true, liveO, zRep⟩, ⟨0, false, liveO, ⟨true, ⟨#[]⟩, [], []⟩⟩] := by
  have e1 : (runP 4 (initP [[liveO]]) (pickP (initP [[liveO]]) [] (-1))).2.1 = -1 := by kernel_rfl
  have e2 : (runP 4 (initP [[liveO]]) (pickP (initP [[liveO]]) [] (-1))).1.hist = [⟨0, true, liveO, zRep⟩, ⟨0, false, liveO, ⟨true, ⟨#[]⟩, [], []⟩⟩] := by kernel_rfl
  exact (h.run 4 (by decide) (by rw [e1]; decide)).trans e2
end Go.Proofs.Ytihjpbalkjhjbaa
namespace Go.Proofs.Ytihjpbalkjhjbaa
open Go.RowKit Go.MapKept Go.MuLone Go.Shelf Go.Proofs.YtihjpbalkjhjbaaW.PrintWords Go.Proofs.Ytihjpbalkjhjbaa.PTableEnds
theorem reps_map {α : Type} (f : α → Value) (l : List α) : Reps (fun (x : α) cs => cs = [f x]) 1 l (l.map f) := by
  refine ⟨by simp, fun j p hp => ?_⟩
  have hj := (List.getElem?_eq_some_iff.1 hp).1
  refine List.ext_getElem? fun k => ?_
  rw [List.getElem?_take, Nat.mul_one]
  by_cases hk : k < 1
  · obtain rfl : k = 0 := by omega
    rw [if_pos (by omega), List.getElem?_drop, Nat.add_zero, List.getElem?_map, hp]
    rfl
  · rw [if_neg hk, List.getElem?_eq_none (by simp; omega)]
theorem IR.reads {w : World} {base : Nat} {v : Value} {l : List Int} (h : IR w base v l) : ∃ A C, v = .slice A l.length C ∧ l.length ≤ C ∧ (Kd.int .i64).C w A l.length l :=
  OwnRow.reads (R := fun (x : Int) cs => cs = [Value.int .i64 x]) ⟨_, h, reps_map _ l⟩
theorem SR.reads {w : World} {base : Nat} {v : Value} {l : List ByteArray} (h : SR w base v l) : ∃ A C, v = .slice A l.length C ∧ l.length ≤ C ∧ Kd.string.C w A l.length l :=
  OwnRow.reads (R := fun (x : ByteArray) cs => cs = [Value.string x]) ⟨_, h, reps_map _ l⟩
theorem HistIs.row {w : World} {base : Nat} {v : Value} {H : List PMo} (h : HistIs w base v H) : OwnRow (fun m cs => MoIs w base m cs) 52 9 w base v H := by
  obtain ⟨rows, ⟨inner, ho, hr⟩, hl, hm⟩ := h
  refine ⟨inner, by rw [← hl]; exact ho, by rw [← hl]; exact hr.1, fun j m hj => ?_⟩
  have hjl : j < rows.length := by rw [hl]; exact (List.getElem?_eq_some_iff.1 hj).1
  have := hr.2 j _ (List.getElem?_eq_getElem hjl)
  rw [this]
  exact hm j m _ hj (List.getElem?_eq_getElem hjl)
theorem MoIs.reads {w : World} {base : Nat} {m : PMo} {r : List Value} (h : MoIs w base m r) : k52.K w m r := by
  obtain ⟨v7, v8, rfl, h7, h8⟩ := h
  obtain ⟨A7, c7, rfl, l7, g7⟩ := h7.reads
  obtain ⟨A8, c8, rfl, l8, g8⟩ := h8.reads
  exact k52_mk w m l7 g7 l8 g8
theorem HistIs.reads {w : World} {base : Nat} {v : Value} {H : List PMo} (h : HistIs w base v H) : ∃ A C, v = .slice A H.length C ∧ H.length ≤ C ∧ k52.C w A H.length H :=
  OwnRow.reads (h.row.imp_ fun _ _ q => q.reads)
/-- a row of calls in one block -/
theorem ops_lit {w : World} {b : Nat} {ops : List POp} {cells : Array Value} (hb : w.heap[b]? = some (.cells cells 23 (0, 0))) (hl : ops.length ≤ 9223372036854775807)
    (h : ∀ j o, ops[j]? = some o → cells[j * 3]? = some (.int .i64 o.f0) ∧ cells[j * 3 + 1]? = some (.int .i64 o.f1) ∧ cells[j * 3 + 2]? = some (.string o.f2)) : k23.C w (some ⟨b, 0, none⟩) ops.length ops := by
  refine ⟨rfl, hl, fun _ => ⟨⟨b, 0, none⟩, rfl, fun j o hj => ⟨opV o, rfl, k23_mk w o, fun i u hu => ?_⟩⟩⟩
  obtain ⟨h0, h1, h2⟩ := h j o hj
  have e : (⟨b, 0, none⟩ : Addr).add (j * 3 + i) = ⟨b, j * 3 + i, none⟩ := by rw [Addr.add_lit, Nat.zero_add]
  show w.cell? ((⟨b, 0, none⟩ : Addr).add (j * 3 + i)) = some u
  rw [e]
  refine blk_cell hb ?_
  rcases i with _ | _ | _ | i
  · simp only [opV, List.getElem?_cons_zero, Option.some.injEq] at hu
    rw [← hu]; exact h0
  · simp only [opV, List.getElem?_cons_succ, List.getElem?_cons_zero, Option.some.injEq] at hu
    rw [← hu]; exact h1
  · simp only [opV, List.getElem?_cons_succ, List.getElem?_cons_zero, Option.some.injEq] at hu
    rw [← hu]; exact h2
  · simp [opV] at hu
/-- a row of one row of calls -/
theorem rows_lit {w : World} {b b1 n C : Nat} {ops : List POp} (hb : w.heap[b]? = some (.cells #[.slice (some ⟨b1, 0, none⟩) n C] 41 (0, 0))) (hn : n = ops.length) (hC : ops.length ≤ C) (h : k23.C w (some ⟨b1, 0, none⟩) ops.length ops) :
    Kd.C (Kd.slice 23 k23) w (some ⟨b, 0, none⟩) 1 [ops] := by
  refine ⟨rfl, by omega, fun _ => ⟨⟨b, 0, none⟩, rfl, fun j o hj => ?_⟩⟩
  have hj0 : j = 0 := by
    have := (List.getElem?_eq_some_iff.1 hj).1
    simp at this
    omega
  subst hj0
  have ho : ops = o := by simpa using hj
  subst ho
  refine ⟨[.slice (some ⟨b1, 0, none⟩) ops.length C], rfl, ⟨_, _, rfl, hC, h⟩, fun i u hu => ?_⟩
  have hi0 : i = 0 := by
    have := (List.getElem?_eq_some_iff.1 hu).1
    simp at this
    omega
  subst hi0
  have hu' : Value.slice (some ⟨b1, 0, none⟩) ops.length C = u := by simpa using hu
  subst hu'
  have e : (⟨b, 0, none⟩ : Addr).add (0 * 1 + 0) = ⟨b, 0, none⟩ := rfl
  show w.cell? ((⟨b, 0, none⟩ : Addr).add (0 * 1 + 0)) = _
  rw [e]
  exact blk_cell hb (by simp [hn])
set_option maxRecDepth 100000 in
set_option maxHeartbeats 2000000 in
theorem lives_walk (w : World) : Calls Try.prog 13 #[] w fun e w' => e = .returned (.bool true) ∧ Fresh w w' := by
  go_enter Try.func13, Try.ntmps13
  go_wp2_with fail
  refine (tnew _).mono ?_
  rintro e w1 ⟨ta, la, rfl, Ta, Fa, Na⟩
  have H1 := Lib.hid (And.intro Ta (And.intro Fa Na))
  clear Ta Fa Na
  go_wp2_with fail
  refine (tpublish_new H1.out.1 5 _ rfl).mono ?_
  rintro e w2 ⟨rfl, la2, T2, X2⟩
  have H2 := Lib.hid (And.intro T2 (And.intro (H1.out.2.1.trans X2.only fun b q => .inr (H1.out.2.2 b q)) fun b (q : la2 b ≠ none) => show w.heap.size ≤ b from by
    have := H1.out.2.1.size
    rcases X2.new b q with q | q
    · exact H1.out.2.2 b q
    · omega))
  clear T2 X2
  go_wp2_with fail
  refine (tpublish_old H2.out.1 5 _ _ (if_pos rfl)).mono ?_
  rintro e w3 ⟨rfl, T3, X3⟩
  have H3 := Lib.hid (And.intro T3 (H2.out.2.1.trans X3.only fun b q => .inr (H2.out.2.2 b q)))
  clear T3 X3
  go_wp2_with fail
  refine (tlookup_some H3.out.1 5 _ (if_pos rfl)).mono ?_
  rintro e w4 ⟨rfl, T4, X4⟩
  have H4 := Lib.hid (H3.out.2.trans X4.only fun b q => .inr (H2.out.2.2 b q))
  clear T4 X4
  go_wp2_with fail
  have hp := play_walk ((w4.alloc (.cells #[.int .i64 1, .int .i64 1, .string ⟨#[120]⟩] 23)).alloc (.cells #[.slice (some ⟨w4.heap.size, 0, none⟩) 1 1] 41)) (some ⟨w4.heap.size + 1, 0, none⟩) 1 [[liveO]]
    (rows_lit (b := w4.heap.size + 1) (b1 := w4.heap.size) (n := 1) (C := 1) (by
      have := new_blk (w := w4.alloc (.cells #[.int .i64 1, .int .i64 1, .string ⟨#[120]⟩] 23)) (.cells #[.slice (some ⟨w4.heap.size, 0, none⟩) 1 1] 41)
      simpa using this) rfl (Nat.le_refl _) (ops_lit (cells := #[.int .i64 1, .int .i64 1, .string ⟨#[120]⟩]) (blk_alloc (new_blk _) _) (by decide) (fun j o hj => by
        have hj0 : j = 0 := by
          have := (List.getElem?_eq_some_iff.1 hj).1
          simp at this
          omega
        subst hj0
        have : liveO = o := by simpa using hj
        subst this
        exact ⟨rfl, rfl, rfl⟩)))
    (.slice none 0 0) [] (.inl ⟨rfl, _, _, rfl⟩) (by decide)
  refine hp.mono ?_
  clear hp
  rintro e w5 ⟨v, H, rfl, hend, hhist, hf⟩
  obtain rfl := live_end hend
  obtain ⟨A, C, rfl, hlC, hC⟩ := hhist.reads
  obtain ⟨ad, A7, c7, A8, c8, hA, x0, x1, x2, x3, x4, x5, x6, x7, x8, _, _, _, _⟩ := at_T52 hC 0 (by decide) (by decide)
  obtain ⟨ad', A7', c7', A8', c8', hA', y0, y1, y2, y3, y4, y5, y6, y7, y8, _, _, _, _⟩ := at_T52 hC 1 (by decide) (by decide)
  subst hA
  injection hA' with hA'
  subst hA'
  have HF := Lib.hid (((H4.out.alloc _).alloc _).trans' hf)
  have x1' : w5.cell? ⟨ad.block, ad.off + 1, none⟩ = some (.bool true) := x1
  have y5' : w5.cell? ⟨(ad.add 9).block, (ad.add 9).off + 5, none⟩ = some (.bool true) := y5
  have y5a : w5.cell? ⟨ad.block, ad.off + 9 + 5, none⟩ = some (.bool true) := y5
  have y5b : w5.cell? ⟨ad.block, ad.off + 14, none⟩ = some (.bool true) := y5
  clear hend hhist hf hC x0 x1 x2 x3 x4 x5 x6 x7 x8 y0 y1 y2 y3 y4 y5 y6 y7 y8
  go_wp2_with fail
  go_ret
  exact ⟨rfl, HF.out⟩
end Go.Proofs.Ytihjpbalkjhjbaa
namespace Go.Proofs.Ytihjpbalkjhjbaa
open Go.RowKit Go.MapKept Go.MuLone Go.Shelf Go.Proofs.YtihjpbalkjhjbaaW.PrintWords Go.Proofs.YtihjpbalkjhjbaaW.PrintLast Go.Proofs.YtihjpbalkjhjbaaW.PrintMore Go.Proofs.Ytihjpbalkjhjbaa.PTableEnds
theorem eqOp (d : Nat) (w : World) (x0 y0 : Int) (x1 y1 : Int) (x2 y2 : ByteArray) :
    (Op.equalIn (d + 2) 23 (.agg #[.int .i64 x0, .int .i64 x1, .string x2]) (.agg #[.int .i64 y0, .int .i64 y1, .string y2])).run Try.prog w = .ok (x0 == y0 && (x1 == y1 && (x2.toList == y2.toList))) w := by
  refine eqA_of Try.underlying23 (by kernel_rfl) ?_
  refine eqf_cons (by rfl) (by go_simp; rfl) (by go_simp; rfl) (by go_simp) ?_
  refine eqf_cons (by rfl) (by go_simp; rfl) (by go_simp; rfl) (by go_simp) ?_
  exact eqf_last (by rfl) (by go_simp; rfl) (by go_simp; rfl) (by go_simp)
abbrev PCall := S57
abbrev mo (H : List PMo) (i : Nat) : PMo := rd_T52 H (i : Nat)
/-- each beginning has its end at nx, the next of its client -/
structure Good (H : List PMo) (nx : Nat → Nat) : Prop where
  lt : ∀ i, i < H.length → (mo H i).f1 = true → i < nx i ∧ nx i < H.length
  cl : ∀ i, i < H.length → (mo H i).f1 = true → (mo H (nx i)).f0 = (mo H i).f0
  en : ∀ i, i < H.length → (mo H i).f1 = true → (mo H (nx i)).f1 = false
  op : ∀ i, i < H.length → (mo H i).f1 = true → (mo H (nx i)).f2 = (mo H i).f2
  no : ∀ i, i < H.length → (mo H i).f1 = true → ∀ k, i < k → k < nx i → (mo H k).f0 ≠ (mo H i).f0
def callL (H : List PMo) (nx : Nat → Nat) : Nat → List PCall
  | 0 => []
  | i + 1 => callL H nx i ++ if (mo H i).f1 = true then [⟨(i : Int), (nx i : Nat), (mo H i).f2, (mo H (nx i)).f3⟩] else []
def endC (H : List PMo) : Nat → Nat
  | 0 => 0
  | i + 1 => endC H i + if (mo H i).f1 = true then 0 else 1
theorem endC_le (H : List PMo) : ∀ i, endC H i ≤ i
  | 0 => Nat.le_refl _
  | i + 1 => by
    have := endC_le H i
    unfold endC
    split <;> omega
theorem callL_len (H : List PMo) (nx : Nat → Nat) : ∀ i, (callL H nx i).length + endC H i = i
  | 0 => rfl
  | i + 1 => by
    have := callL_len H nx i
    unfold callL endC
    split <;> simp <;> omega
theorem info_call11 : (Try.prog.info? 57).map (fun i => (i.zero, i.size, i.bytes)) = some (some (.agg #[(.int .i64 0), (.int .i64 0), (.int .i64 0), (.int .i64 0), (.string ⟨#[]⟩), (.bool false), (.string ⟨#[]⟩), (.slice none 0 0), (.slice none 0 0)]), 9, 120) := by kernel_rfl
/-- the call whose end is sought, from place k on -/
def CAt (w wr : World) (b : Nat) (H : List PMo) (i n k : Nat) : Prop :=
  ∃ (tt : Int) (r : PRep) (A7 : Option Addr) (c7 : Nat) (A8 : Option Addr) (c8 : Nat), wr.heap[b]? = some (.cells #[.int .i64 i, .int .i64 tt, .int .i64 (mo H i).f2.f0, .int .i64 (mo H i).f2.f1, .string (mo H i).f2.f2, .bool r.f0, .string r.f1, .slice A7 r.f2.length c7, .slice A8 r.f3.length c8] 57 (0, 0)) ∧
    (r.f2.length ≤ c7 ∧ (Kd.int .i64).C w A7 r.f2.length r.f2 ∧ r.f3.length ≤ c8 ∧ Kd.string.C w A8 r.f3.length r.f3) ∧
    ((tt = -1 ∧ r = zRep ∧ k ≤ n) ∨ (tt = n ∧ r = (mo H n).f3))
theorem below_set {g : Nat} {w w1 : World} (h : Below w.heap.size w w1) (hg : w.heap.size ≤ g) (j : Nat) (u : Value) : Below w.heap.size w (w1.setCell ⟨g, j, none⟩ u) :=
  h.trans ((Only.setCell (S := fun b => b = g) (Only.refl _ _) (p := ⟨g, j, none⟩) (.inl rfl) u).below (below_size h) (fun b e => by subst e; exact hg))
set_option maxRecDepth 200000 in
set_option maxHeartbeats 4000000 in
theorem calls_walk (w : World) (A : Option Addr) (c : Nat) (H : List PMo) (nx : Nat → Nat) (hr : k52.C w A H.length H) (hl : H.length ≤ 16777216) (hg : Good H nx) (hn : endC H H.length = (callL H nx H.length).length) :
    Calls Try.prog 25 #[.slice A H.length c] w fun e w' => Below w.heap.size w w' ∧ ∃ v, e = .returned (.tuple #[v, .bool true]) ∧ OwnRow (k57.K w) 57 9 w' w.heap.size v (callL H nx H.length) := by
  have HR := Lib.hid hr
  have HG := Lib.hid hg
  have HN := Lib.hid hn
  clear hr hg hn
  have hu45 := Try.underlying52
  have hu40 := Try.underlying23
  have hu43 := Try.underlying50
  go_enter Try.func25, Try.ntmps25
  go_wp2_with fail
  go_loopw [4, 5, 6] (fun s4 s5 s6 wr => ∃ (i : Nat), i ≤ H.length ∧ s5 = .int .i64 (endC H i) ∧ s6 = .int .i64 i ∧ OwnRow (k57.K w) 57 9 wr w.heap.size s4 (callL H nx i) ∧ Below w.heap.size w wr) (fun _ _ s6 _ => H.length - (intOf s6).toNat)
  case atStart => exact ⟨0, Nat.zero_le _, rfl, rfl, OwnRow.none_ _ _ _ _ _, Below.refl _ _⟩
  case round =>
    obtain ⟨wO, rfl⟩ : ∃ wO : World, wO = wr := ⟨_, rfl⟩
    obtain ⟨i, hi, rfl, rfl, hrow, hb⟩ := hrel
    obtain ⟨A6, c6, rfl, h6⟩ := hrow.slice_
    have HS := Lib.hid (And.intro hrow (And.intro hb h6))
    have hcl := callL_len H nx i
    have hel := endC_le H i
    clear hrow hb h6
    by_cases hlt : i < H.length
    · have hlD : decide ((i : Int) < (H.length : Int)) = true := by simp; omega
      obtain ⟨ad, A7, c7, A8, c8, hA, x0, x1, x2, x3, x4, x5, x6, x7, x8, h7, g7, h8, g8⟩ := at_T52 (w := wO) (Kd.C_below HR.out HS.out.2.1) i (by omega) (by omega)
      subst hA
      simp only [Int.toNat_natCast] at x0 x1 x2 x3 x4 x5 x6 x7 x8
      clear h7 g7 h8 g8
      cases hb1 : (mo H i).f1 with
      | false =>
        have hs : endC H (i + 1) = endC H i + 1 := by show endC H i + _ = _; rw [hb1]; rfl
        have hc : callL H nx (i + 1) = callL H nx i := by show callL H nx i ++ _ = _; rw [hb1]; simp
        rw [show (rd_T52 H (i : Nat)).f1 = false from hb1] at x1
        have HX := Lib.hid (And.intro hs hc)
        clear hb1 hs hc x0 x2 x3 x4 x5 x6 x7 x8
        go_wp2_with fail
        go_roundw
        case rel => exact ⟨i + 1, by omega, by rw [HX.out.1]; go_num, by go_num, by rw [HX.out.2]; exact HS.out.1, HS.out.2.1⟩
        case measure => simp [intOf]; omega
      | true =>
        have hc : callL H nx (i + 1) = callL H nx i ++ [⟨(i : Int), (nx i : Nat), (mo H i).f2, (mo H (nx i)).f3⟩] := by show callL H nx i ++ _ = _; rw [if_pos hb1]
        have hs : endC H (i + 1) = endC H i := by show endC H i + _ = _; rw [if_pos hb1]; rfl
        obtain ⟨n, hnx⟩ : ∃ n, n = nx i := ⟨_, rfl⟩
        have g1 := HG.out.lt i hlt hb1
        have g2 := HG.out.cl i hlt hb1
        have g3 := HG.out.en i hlt hb1
        have g4 := HG.out.op i hlt hb1
        have g5 := HG.out.no i hlt hb1
        rw [← hnx] at g1 g2 g3 g4 g5 hc
        obtain ⟨m, hm⟩ : ∃ m, m = mo H i := ⟨_, rfl⟩
        rw [show (rd_T52 H (i : Nat)) = m from hm.symm] at x0 x1 x2 x3 x4 x5 x6 x7 x8
        rw [show m.f1 = true by rw [hm]; exact hb1] at x1
        have hin := g1.1
        have hnl := g1.2
        have HX := Lib.hid (And.intro hs (And.intro hc (And.intro g2 (And.intro g3 (And.intro g4 (And.intro g5 hm))))))
        clear hb1 hs hc hnx g1 g2 g3 g4 g5 hm x5 x6 x7 x8
        go_wp2_with fail
        clear x0 x2 x3 x4
        go_loopw [8] (fun s8 wt => ∃ (k : Nat), i + 1 ≤ k ∧ k ≤ H.length ∧ s8 = .int .i64 k ∧ Below wO.heap.size wO wt ∧ CAt w wt wO.heap.size H i n k) (fun s8 _ => H.length - (intOf s8).toNat)
        case atStart => exact ⟨i + 1, Nat.le_refl _, hlt, by simp, below_alloc (Below.refl _ _) _, -1, zRep, none, 0, none, 0, by rw [← HX.out.2.2.2.2.2.2]; exact new_blk _, ⟨Nat.le_refl _, Kd.C_nil _ _, Nat.le_refl _, Kd.C_nil _ _⟩, .inl ⟨rfl, rfl, hin⟩⟩
        case round =>
          obtain ⟨k, hk0, hk, rfl, hbl, tt, r, B7, d7, B8, d8, hcb, hlens, hto⟩ := hrel
          rw [← HX.out.2.2.2.2.2.2] at hcb
          have HBL := Lib.hid hbl
          have HLE := Lib.hid hlens
          have HBW := Lib.hid (below_step HS.out.2.1 hbl)
          have z1 := blk_cell hcb (i := 1) rfl
          have HCB := Lib.hid hcb
          clear hbl hlens
          rcases hto with ⟨rfl, rfl, hkn⟩ | ⟨rfl, rfl⟩
          · have hkl : k < H.length := by omega
            have hkD : decide ((k : Int) < (H.length : Int)) = true := by simp; omega
            obtain ⟨ad', A7', c7', A8', c8', hadd, x0, x1, x2, x3, x4, x5, x6, x7, x8, h7, g7, h8, g8⟩ := at_T52 HR.out k (by omega) (by omega)
            cases hadd
            have mv : ∀ {p : Addr} {u : Value}, w.cell? p = some u → wr.cell? p = some u := fun h => (HBW.out.cell (World.block_lt_of_cell? w _ h)).trans h
            replace x0 := mv x0
            replace x1 := mv x1
            replace x2 := mv x2
            replace x3 := mv x3
            replace x4 := mv x4
            replace x5 := mv x5
            replace x6 := mv x6
            replace x7 := mv x7
            replace x8 := mv x8
            clear mv
            obtain ⟨ad', _, _, _, _, hadd, y0, _, y2, y3, y4, _⟩ := at_T52 (w := wr) (Kd.C_below HR.out HBW.out) i (by omega) (by omega)
            cases hadd
            simp only [Int.toNat_natCast] at x0 x1 x2 x3 x4 x5 x6 x7 x8 y0 y2 y3 y4
            rw [show rd_T52 H (i : Nat) = m from HX.out.2.2.2.2.2.2.symm] at y0 y2 y3 y4
            obtain ⟨x, hx⟩ : ∃ x, x = mo H k := ⟨_, rfl⟩
            rw [show rd_T52 H (k : Nat) = x from hx.symm] at x0 x1 x2 x3 x4 x5 x6 x7 x8 h7 g7 h8 g8
            have HG4 := Lib.hid (And.intro h7 (And.intro g7 (And.intro h8 g8)))
            clear h7 g7 h8 g8 hcb
            by_cases hke : k = n
            · have e0 : x.f0 = m.f0 := by rw [hx, hke, HX.out.2.2.1, HX.out.2.2.2.2.2.2]
              have e1 : x.f1 = false := by rw [hx, hke, HX.out.2.2.2.1]
              have e2 : x.f2 = m.f2 := by rw [hx, hke, HX.out.2.2.2.2.1, HX.out.2.2.2.2.2.2]
              rw [e0] at x0
              rw [e1] at x1
              rw [e2] at x2 x3 x4
              have HE := Lib.hid (And.intro hke hx)
              clear hke hx e0 e1 e2
              have hclD : (m.f0 == m.f0) = true := beq_iff_eq.2 rfl
              have hq : (m.f2.f0 == m.f2.f0 && (m.f2.f1 == m.f2.f1 && (m.f2.f2.toList == m.f2.f2.toList))) = true := by simp
              have hqq := eqOp
              have z5 := blk_cell HCB.out (i := 5) rfl
              have z6 := blk_cell HCB.out (i := 6) rfl
              have z7 := blk_cell HCB.out (i := 7) rfl
              have z8 := blk_cell HCB.out (i := 8) rfl
              have fz : ∀ i, wr.frozen? ⟨wO.heap.size, i, none⟩ = false := fun i => blk_frozen HCB.out i
              have hcbl := blk_lt HCB.out
              go_wp2_with fail
              go_quiet (fail)
              go_wp2_with fail
              go_quiet (fail)
              go_wp2_with fail
              go_roundw
              case rel =>
                refine ⟨k + 1, by omega, by omega, by go_num, ?_, ?_⟩
                · exact below_set (below_set (below_set (below_set (below_set (pw_below_drewN HBL.out _) (Nat.le_refl _) _ _) (Nat.le_refl _) _ _) (Nat.le_refl _) _ _) (Nat.le_refl _) _ _) (Nat.le_refl _) _ _
                · have hxn : (mo H n).f3 = x.f3 := by rw [HE.out.2, HE.out.1]
                  refine ⟨(n : Nat), x.f3, A7', c7', A8', c8', ?_, HG4.out, .inr ⟨rfl, hxn.symm⟩⟩
                  rw [← HX.out.2.2.2.2.2.2, ← HE.out.1]
                  exact blk_set (blk_set (blk_set (blk_set (blk_set HCB.out 1 _) 5 _) 6 _) 7 _) 8 _
              case measure => simp [intOf]; omega
            · have hne : x.f0 ≠ m.f0 := by rw [hx, HX.out.2.2.2.2.2.2]; exact HX.out.2.2.2.2.2.1 k (by omega) (by omega)
              have hclD : (x.f0 == m.f0) = false := beq_eq_false_iff_ne.mpr hne
              clear hne hx x1 x2 x3 x4 x5 x6 x7 x8
              go_wp2_with fail
              go_quiet (fail)
              go_wp2_with fail
              go_roundw
              case rel => exact ⟨k + 1, by omega, by omega, by go_num, pw_below_drewN HBL.out _, -1, zRep, B7, d7, B8, d8, by rw [← HX.out.2.2.2.2.2.2]; exact HCB.out, HLE.out, .inl ⟨rfl, rfl, by omega⟩⟩
              case measure => simp [intOf]; omega
          · have z0 := blk_cell HCB.out (i := 0) rfl
            have z2 := blk_cell HCB.out (i := 2) rfl
            have z3 := blk_cell HCB.out (i := 3) rfl
            have z4 := blk_cell HCB.out (i := 4) rfl
            have z5 := blk_cell HCB.out (i := 5) rfl
            have z6 := blk_cell HCB.out (i := 6) rfl
            have z7 := blk_cell HCB.out (i := 7) rfl
            have z8 := blk_cell HCB.out (i := 8) rfl
            have HO : Hid (OwnRow (k57.K w) 57 9 wr w.heap.size (.slice A6 (callL H nx i).length c6) (callL H nx i)) := Lib.hid (HS.out.1.below HBL.out)
            clear hcb
            by_cases hkl : k < H.length
            · have hkD : decide ((k : Int) < (H.length : Int)) = true := by simp; omega
              go_wp2_with (refine OwnRow.append (w0 := w) w.heap.size rfl (.tmp 83) (.tmp 85) 53 57 _ 9 120 rfl Try.underlying53 info_call11 rfl (by decide) (by decide) _ (callL H nx i) ⟨(i : Int), (n : Nat), m.f2, (mo H n).f3⟩ _ rfl rfl (k57_mk w ⟨(i : Int), (n : Nat), m.f2, (mo H n).f3⟩ HLE.out.1 HLE.out.2.1 HLE.out.2.2.1 HLE.out.2.2.2) rfl (by intro u hu; simp at hu; rcases hu with rfl | rfl | rfl | rfl | rfl | rfl | rfl | rfl | rfl <;> rfl) HO.out HBW.out (below_size HBW.out) (by omega) ?_; intro v1 w3 hO3 hB3 hg3 hat3; have HO3 := Lib.hid (And.intro hO3 (And.intro hB3 hg3)); clear hO3 hB3 hg3 hat3)
              go_roundw
              case rel => exact ⟨i + 1, by omega, by rw [HX.out.1], by go_num, by rw [HX.out.2.1, ← HX.out.2.2.2.2.2.2]; exact HO3.out.1, HO3.out.2.1⟩
              case measure => simp [intOf]; omega
            · have hkD : decide ((k : Int) < (H.length : Int)) = false := by simp; omega
              go_wp2_with (refine OwnRow.append (w0 := w) w.heap.size rfl (.tmp 83) (.tmp 85) 53 57 _ 9 120 rfl Try.underlying53 info_call11 rfl (by decide) (by decide) _ (callL H nx i) ⟨(i : Int), (n : Nat), m.f2, (mo H n).f3⟩ _ rfl rfl (k57_mk w ⟨(i : Int), (n : Nat), m.f2, (mo H n).f3⟩ HLE.out.1 HLE.out.2.1 HLE.out.2.2.1 HLE.out.2.2.2) rfl (by intro u hu; simp at hu; rcases hu with rfl | rfl | rfl | rfl | rfl | rfl | rfl | rfl | rfl <;> rfl) HO.out HBW.out (below_size HBW.out) (by omega) ?_; intro v1 w3 hO3 hB3 hg3 hat3; have HO3 := Lib.hid (And.intro hO3 (And.intro hB3 hg3)); clear hO3 hB3 hg3 hat3)
              go_roundw
              case rel => exact ⟨i + 1, by omega, by rw [HX.out.1], by go_num, by rw [HX.out.2.1, ← HX.out.2.2.2.2.2.2]; exact HO3.out.1, HO3.out.2.1⟩
              case measure => simp [intOf]; omega
    · obtain rfl : i = H.length := by omega
      have heD : ((endC H H.length : Int) == ((callL H nx H.length).length : Int)) = true := by
        have := HN.out
        simp; omega
      have heD2 : decide ((endC H H.length : Int) = ((callL H nx H.length).length : Int)) = true := by
        have := HN.out
        simp; omega
      go_wp2_with fail
      go_ret2
      exact ⟨HS.out.2.1, _, rfl, HS.out.1⟩
theorem tplain_addr {w : World} {a : Addr} {v : Value} (h : w.cell? a = some v) : ∃ b o, a = ⟨b, o, none⟩ ∧ b < w.heap.size := by
  obtain ⟨b, o, s⟩ := a
  cases s with
  | none => exact ⟨b, o, rfl, World.block_lt_of_cell? w _ h⟩
  | some s =>
    unfold World.cell? at h
    split at h
    · simp at h
    · cases h
theorem ScrIs.of_C {w : World} {B : Option Addr} {c1 : Nat} {scr : List Int} (h : (Kd.int .i64).C w B scr.length scr) (hc : scr.length ≤ c1) (hc1 : c1 ≤ 9223372036854775807) : ScrIs w w.heap.size (.slice B scr.length c1) scr := by
  cases scr with
  | nil => exact .inl ⟨rfl, B, c1, rfl⟩
  | cons x t =>
    obtain ⟨ad, rfl, h2⟩ := h.2.2 (by simp)
    obtain ⟨c, hcl, hK, hcell⟩ := h2 0 x rfl
    have hc0 : c = [.int .i64 x] := hK
    subst hc0
    have h0 := hcell 0 _ rfl
    have e0 : ad.add (0 * 1 + 0) = ad := rfl
    have h0' : w.cell? (ad.add (0 * 1 + 0)) = some (.int .i64 x) := h0
    rw [e0] at h0'
    obtain ⟨b, o, rfl, hb⟩ := tplain_addr h0'
    refine .inr ⟨b, o, c1, rfl, hc, hc1, hb, fun j y hj => ?_⟩
    obtain ⟨c2, _, hK2, hcell2⟩ := h2 j y hj
    have hc2 : c2 = [.int .i64 y] := hK2
    subst hc2
    have h3 : w.cell? ((⟨b, o, none⟩ : Addr).add (j * 1 + 0)) = some (.int .i64 y) := hcell2 0 _ rfl
    rw [Addr.add_lit, Nat.mul_one, Nat.add_zero] at h3
    exact h3
/-! #### long -/
theorem long_no (l0 : List (List POp)) (scr : List Int) (h1 : l0.length + (l0.map List.length).sum ≤ 2147483647) (h2 : scr.length ≤ 2147483647) : ∃ k, fuguelaw11_long.f k l0 scr = some false := by
  have key : ∀ d i : Nat, i + d = l0.length → ∀ k, d < k → fuguelaw11_long.l0 k l0 scr ((l0.length + ((l0.map List.length).take i).sum : Nat) : Int) (i : Nat) = some false := by
    have tot : ∀ i, ((l0.map List.length).take i).sum ≤ (l0.map List.length).sum := fun i => by
      conv => rhs; rw [← List.take_append_drop i (l0.map List.length)]
      rw [List.sum_append]
      omega
    intro d
    induction d with
    | zero =>
      intro i hi k hk
      obtain ⟨k, rfl⟩ : ∃ m, k = m + 1 := ⟨k - 1, by omega⟩
      have hle := tot i
      simp only [fuguelaw11_long.l0, fugueref00_Long.f]
      rw [if_neg (by omega)]
      simp only [Option.bind_some]
      rw [if_neg (by rw [decide_eq_true_eq]; omega)]
      rw [decide_eq_false (by omega)]
    | succ d ih =>
      intro i hi k hk
      obtain ⟨k, rfl⟩ : ∃ m, k = m + 1 := ⟨k - 1, by omega⟩
      have hil : i < l0.length := by omega
      have e : ((l0.map List.length).take (i + 1)).sum = ((l0.map List.length).take i).sum + (l0[i]'hil).length := by
        rw [List.take_succ_eq_append_getElem (by simpa using hil)]
        simp
      have hle := tot (i + 1)
      have hle2 := tot i
      simp only [fuguelaw11_long.l0, fugueref00_Long.f]
      rw [if_pos (by omega)]
      simp only [Option.bind_some]
      rw [if_neg (by rw [decide_eq_true_eq]; omega), if_pos (by omega)]
      have := ih (i + 1) (by omega) k (by omega)
      rw [show wrap64 (((l0.length + ((l0.map List.length).take i).sum : Nat) : Int) + ((PTableEnds.rd_L3 l0 (i : Nat)).length : Int)) = ((l0.length + ((l0.map List.length).take (i + 1)).sum : Nat) : Int) by
        have hr : PTableEnds.rd_L3 l0 (i : Nat) = l0[i]'hil := by unfold PTableEnds.rd_L3; simp [hil]
        rw [hr, e]
        unfold wrap64
        omega, show wrap64 (((i : Nat) : Int) + 1) = ((i + 1 : Nat) : Int) by unfold wrap64; omega]
      exact this
  refine ⟨l0.length + 1, ?_⟩
  have := key l0.length 0 (by omega) (l0.length + 1) (by omega)
  simpa [fuguelaw11_long.f] using this
/-! #### what is asked -/
/-- of a client: the calls that stand from place j on -/
def restC (H : List PMo) (cs : List PCall) (n : Nat) (j : Nat) : List POp := ((cs.drop j).filter fun (c : PCall) => decide ((rd_T52 H c.f0).f0 = (n : Int))).map (·.f2)
structure EndsOk (l0 : List (List POp)) (H : List PMo) (nx : Nat → Nat) : Prop where
  good : Good H nx
  cnt : endC H H.length = (callL H nx H.length).length
  cl : ∀ (j : Nat) (c : PCall), (callL H nx H.length)[j]? = some c → ∃ p n : Nat, c.f0 = p ∧ p < H.length ∧ n < l0.length ∧ (mo H p).f0 = n
  rest : ∀ n, n < l0.length → restC H (callL H nx H.length) n 0 = (rd_L3 l0 (n : Nat)).filter okB
  len : H.length ≤ 16777216
/-- where each client stands -/
def AtPos (l0 : List (List POp)) (H : List PMo) (cs : List PCall) (j : Nat) (a : Nat → Nat) : Prop := ∀ n, n < l0.length → a n ≤ (rd_L3 l0 (n : Nat)).length ∧ ((rd_L3 l0 (n : Nat)).drop (a n)).filter okB = restC H cs n j
theorem restC_here {H : List PMo} {cs : List PCall} {n j : Nat} {c : PCall} (hc : cs[j]? = some c) (hn : (rd_T52 H c.f0).f0 = (n : Int)) : restC H cs n j = c.f2 :: restC H cs n (j + 1) := by
  unfold restC
  obtain ⟨hj, rfl⟩ := List.getElem?_eq_some_iff.1 hc
  rw [List.drop_eq_getElem_cons hj, List.filter_cons, if_pos (by simp [hn])]
  rfl
theorem restC_other {H : List PMo} {cs : List PCall} {n j : Nat} {c : PCall} (hc : cs[j]? = some c) (hn : (rd_T52 H c.f0).f0 ≠ (n : Int)) : restC H cs n j = restC H cs n (j + 1) := by
  unfold restC
  obtain ⟨hj, rfl⟩ := List.getElem?_eq_some_iff.1 hc
  rw [List.drop_eq_getElem_cons hj, List.filter_cons, if_neg (by simp [hn])]
def rowA (k : Nat) (a : Nat → Nat) : List Value := (List.range k).map fun n => .int .i64 ((a n : Nat) : Int)
theorem rowA_get {k n : Nat} {a : Nat → Nat} (h : n < k) : (rowA k a)[n]? = some (.int .i64 ((a n : Nat) : Int)) := by simp [rowA, h]
theorem rowA_set {k n : Nat} {a : Nat → Nat} (x : Nat) : (rowA k a).set n (.int .i64 ((x : Nat) : Int)) = rowA k fun i => if i = n then x else a i := by
  refine List.ext_getElem? fun i => ?_
  rw [List.getElem?_set]
  unfold rowA
  by_cases hi : i < k
  · by_cases e : n = i
    · subst e; simp [hi]
    · rw [if_neg e]; simp [hi, Ne.symm e]
  · rw [List.getElem?_eq_none (l := (List.range k).map _) (i := i) (by simp; omega)]
    by_cases e : n = i
    · subst e; simp [hi]
    · rw [if_neg e, List.getElem?_eq_none (by simp; omega)]
/-- one call more is told -/
theorem AtPos.step {l0 : List (List POp)} {H : List PMo} {cs : List PCall} {j : Nat} {a : Nat → Nat} (h : AtPos l0 H cs j a) {c : PCall} (hc : cs[j]? = some c) {n : Nat} (hn : (rd_T52 H c.f0).f0 = (n : Int)) {x : Nat} (hx : x < (rd_L3 l0 (n : Nat)).length) (hd : ((rd_L3 l0 (n : Nat)).drop x).filter okB = c.f2 :: ((rd_L3 l0 (n : Nat)).drop (x + 1)).filter okB) (he : ((rd_L3 l0 (n : Nat)).drop x).filter okB = restC H cs n j) :
    AtPos l0 H cs (j + 1) fun i => if i = n then x + 1 else a i := by
  intro i hi
  by_cases e : i = n
  · subst e
    simp only [if_true]
    refine ⟨hx, ?_⟩
    rw [hd, restC_here hc hn] at he
    injection he
  · simp only [if_neg e]
    obtain ⟨h1, h2⟩ := h i hi
    exact ⟨h1, by rw [h2, restC_other hc (by rw [hn]; exact fun q => e (Int.ofNat_inj.1 q).symm)]⟩
end Go.Proofs.Ytihjpbalkjhjbaa
namespace Go.Proofs.Ytihjpbalkjhjbaa
open Go.RowKit Go.MapKept Go.MuLone Go.Shelf Go.Proofs.YtihjpbalkjhjbaaW.PrintWords Go.Proofs.Ytihjpbalkjhjbaa.PTableEnds
/-- a client's moments -/
def proj (n : Nat) (H : List PMo) : List PMo := H.filter fun (m : PMo) => decide (m.f0 = (n : Int))
/-- calls that are over -/
def pairs (n : Nat) : List (POp × PRep) → List PMo
  | [] => []
  | x :: d => ⟨(n : Nat), true, x.1, zRep⟩ :: ⟨(n : Nat), false, x.1, x.2⟩ :: pairs n d
theorem pairs_snoc (n : Nat) (x : POp × PRep) : ∀ d, pairs n (d ++ [x]) = pairs n d ++ [⟨(n : Nat), true, x.1, zRep⟩, ⟨(n : Nat), false, x.1, x.2⟩]
  | [] => rfl
  | y :: d => by
    show _ :: _ :: pairs n (d ++ [x]) = _ :: _ :: (pairs n d ++ _)
    rw [pairs_snoc n x d]
theorem proj_snoc (n : Nat) (H : List PMo) (m : PMo) : proj n (H ++ [m]) = proj n H ++ if m.f0 = (n : Int) then [m] else [] := by
  unfold proj
  rw [List.filter_append]
  by_cases e : m.f0 = (n : Int)
  · simp [e]
  · simp [e]
def opened (n : Nat) (c : PCl) : List PMo := if c.begun = true then (match c.ops with | o :: _ => [⟨(n : Nat), true, o, zRep⟩] | [] => []) else []
def cb (H : List PMo) : Nat := (H.filter fun (m : PMo) => m.f1).length
def ce (H : List PMo) : Nat := (H.filter fun (m : PMo) => !m.f1).length
def bg (c : PCl) : Nat := if c.begun = true then 1 else 0
structure HInv (l0 : List (List POp)) (S : PSt) : Prop where
  len : S.cls.length = l0.length
  rng : ∀ m ∈ S.hist, ∃ n : Nat, n < l0.length ∧ m.f0 = (n : Int)
  cl : ∀ (n : Nat) (c : PCl), S.cls[n]? = some c → ∃ d : List (POp × PRep), proj n S.hist = pairs n d ++ opened n c ∧ (rd_L3 l0 (n : Nat)).filter okB = d.map (·.1) ++ c.ops
  opn : ∀ (n : Nat) (c : PCl), S.cls[n]? = some c → c.begun = true → c.ops ≠ []
  bal : cb S.hist = ce S.hist + (S.cls.map bg).sum
theorem HInv.turn {l0 : List (List POp)} {S : PSt} (h : HInv l0 S) {n : Nat} {c c' : PCl} (hn : S.cls[n]? = some c) (h1 : c'.ops = c.ops) (h2 : c'.begun = c.begun) {lk : Nat → Bool} {L : List (Int × ByteArray)} : HInv l0 ⟨S.cls.set n c', lk, L, S.hist⟩ := by
  refine ⟨by simpa using h.len, h.rng, fun i d hd => ?_, fun i d hd => ?_, ?_⟩
  · rcases (set_get hn).1 hd with ⟨rfl, rfl⟩ | ⟨hin, hd⟩
    · obtain ⟨d, k1, k2⟩ := h.cl i c hn
      exact ⟨d, by rw [k1]; unfold opened; rw [h1, h2], by rw [h1]; exact k2⟩
    · exact h.cl i d hd
  · rcases (set_get hn).1 hd with ⟨rfl, rfl⟩ | ⟨hin, hd⟩
    · rw [h1, h2]
      exact h.opn i c hn
    · exact h.opn i d hd
  · have := sum_set (S.cls.map bg) n (bg c) (bg c') (by rw [List.getElem?_map, hn]; rfl)
    rw [← List.map_set, show bg c' = bg c by unfold bg; rw [h2]] at this
    have hb := h.bal
    show cb S.hist = ce S.hist + ((S.cls.set n c').map bg).sum
    omega
theorem HInv.tell {l0 : List (List POp)} {S : PSt} (h : HInv l0 S) {n : Nat} {c c' : PCl} (hn : S.cls[n]? = some c) {m : PMo} (hm : m.f0 = (n : Int)) {d' : List (POp × PRep)}
    (h1 : proj n S.hist ++ [m] = pairs n d' ++ opened n c') (h2 : (rd_L3 l0 (n : Nat)).filter okB = d'.map (·.1) ++ c'.ops) (h3 : c'.begun = true → c'.ops ≠ []) (h4 : (if m.f1 = true then 1 else 0) + bg c = bg c' + (if m.f1 = true then 0 else 1)) {lk : Nat → Bool} {L : List (Int × ByteArray)} : HInv l0 ⟨S.cls.set n c', lk, L, S.hist ++ [m]⟩ := by
  have hnl : n < l0.length := by rw [← h.len]; exact (List.getElem?_eq_some_iff.1 hn).1
  refine ⟨by simpa using h.len, fun m' q => ?_, fun i d hd => ?_, fun i d hd => ?_, ?_⟩
  · rcases List.mem_append.1 q with q | q
    · exact h.rng m' q
    · rw [List.mem_singleton] at q
      rw [q]
      exact ⟨n, hnl, hm⟩
  · show ∃ d', proj i (S.hist ++ [m]) = _ ∧ _
    rw [proj_snoc]
    rcases (set_get hn).1 hd with ⟨rfl, rfl⟩ | ⟨hin, hd⟩
    · rw [if_pos hm]
      exact ⟨d', h1, h2⟩
    · rw [if_neg (fun e => hin (by omega)), List.append_nil]
      exact h.cl i d hd
  · rcases (set_get hn).1 hd with ⟨rfl, rfl⟩ | ⟨hin, hd⟩
    · exact h3
    · exact h.opn i d hd
  · have := sum_set (S.cls.map bg) n (bg c) (bg c') (by rw [List.getElem?_map, hn]; rfl)
    have hb := h.bal
    show cb (S.hist ++ [m]) = ce (S.hist ++ [m]) + ((S.cls.set n c').map bg).sum
    unfold cb ce at hb ⊢
    rw [List.map_set, List.filter_append, List.filter_append, List.length_append, List.length_append]
    cases hm1 : m.f1 with
    | true => simp [hm1] at h4 ⊢; omega
    | false => simp [hm1] at h4 ⊢; omega
theorem HInv.step {l0 : List (List POp)} {S : PSt} (h : HInv l0 S) {n : Nat} {c : PCl} (hn : S.cls[n]? = some c) {o : POp} {rest : List POp} (ho : c.ops = o :: rest) : HInv l0 (stepP S n c o rest) := by
  obtain ⟨d, k1, k2⟩ := h.cl n c hn
  unfold stepP
  split
  · rename_i hb
    refine h.tell (c' := { c with begun := true }) hn rfl (d' := d) ?_ k2 (fun _ => by show c.ops ≠ []; rw [ho]; simp) (by simp [bg, hb])
    rw [k1]
    simp [opened, hb, ho]
  · rename_i hb
    have hb1 : c.begun = true := by simpa using hb
    split
    · rename_i r hr
      refine h.tell (c' := { c with ops := rest, begun := false, reply := none }) hn rfl (d' := d ++ [(o, r)]) ?_ ?_ (fun q => by cases q) (by simp [bg, hb1])
      · rw [k1, pairs_snoc]
        simp [opened, hb1, ho]
      · rw [k2, ho]
        simp
    · split
      · exact h.turn (c' := { c with lockd := c.lockd + 1 }) hn rfl rfl
      · unfold effectP
        exact h.turn (c' := { c with reply := some (repOf S.L o), lockd := if o.f0 = 1 ∨ o.f0 = 2 then c.lockd else 0 }) hn rfl rfl
theorem HInv.init (l0 : List (List POp)) : HInv l0 (initP l0) := by
  refine ⟨by simp [initP], fun m hm => by simp [initP] at hm, fun n c hc => ?_, fun n c hc hb => ?_, ?_⟩
  · unfold initP at hc
    rw [List.getElem?_map, Option.map_eq_some_iff] at hc
    obtain ⟨ops, h1, rfl⟩ := hc
    refine ⟨[], rfl, ?_⟩
    unfold rd_L3
    rw [Int.toNat_natCast, List.getD_eq_getElem?_getD, h1]
    rfl
  · unfold initP at hc
    rw [List.getElem?_map, Option.map_eq_some_iff] at hc
    obtain ⟨ops, h1, rfl⟩ := hc
    cases hb
  · show cb [] = ce [] + _
    have : ∀ l : List (List POp), ((l.map fun ops => newC (ops.filter okB)).map bg).sum = 0 := fun l => by
      induction l with
      | nil => rfl
      | cons a l ih => simp only [List.map_cons, List.sum_cons, ih]; rfl
    have h2 : ((initP l0).cls.map bg).sum = 0 := this l0
    rw [h2]
    rfl
/-! #### what a play's end is -/
structure OverH (l0 : List (List POp)) (H : List PMo) : Prop where
  rng : ∀ m ∈ H, ∃ n : Nat, n < l0.length ∧ m.f0 = (n : Int)
  cl : ∀ n : Nat, n < l0.length → ∃ d : List (POp × PRep), proj n H = pairs n d ∧ (rd_L3 l0 (n : Nat)).filter okB = d.map (·.1)
  bal : cb H = ce H
theorem LInv.init (l0 : List (List POp)) : LInv (initP l0) := by
  have h : ∀ (n : Nat) (c : PCl), (initP l0).cls[n]? = some c → c.reply = none ∧ c.lockd = 0 := fun n c hc => by
    unfold initP at hc
    rw [List.getElem?_map, Option.map_eq_some_iff] at hc
    obtain ⟨ops, h1, rfl⟩ := hc
    exact ⟨rfl, rfl⟩
  refine ⟨fun n c hc _ => h n c hc, fun n c hc hp => ?_, fun n n' c c' hc _ hp => ?_, fun n c hc => ?_, fun j => ?_⟩
  · have := (h n c hc).2; omega
  · have := (h n c hc).2; omega
  · have := (h n c hc).2; omega
  · constructor
    · intro q; cases q
    · rintro ⟨n, c, hc, hj⟩
      have := (h n c hc).2; omega
/-- the invariants of a play -/
structure PlayInv (l0 : List (List POp)) (S : PSt) : Prop where
  p : PInv (mu (initP l0)) S
  l : LInv S
  h : HInv l0 S
theorem PlayInv.step {l0 : List (List POp)} (S : PSt) (n : Nat) (c : PCl) (o : POp) (rest : List POp) (h : PlayInv l0 S) (hn : S.cls[n]? = some c) (ho : c.ops = o :: rest) (hc : canB S c = true) : PlayInv l0 (stepP S n c o rest) :=
  ⟨(h.p.step hn ho).1, h.l.step hn ho ((h.p.ok n c hn).1 o (by rw [ho]; simp)) hc, h.h.step hn ho⟩
theorem PlayInv.init (l0 : List (List POp)) : PlayInv l0 (initP l0) := ⟨init_inv l0, LInv.init l0, HInv.init l0⟩
theorem play_over {l0 : List (List POp)} {scr : List Int} {H : List PMo} (h : PlayEnd l0 scr H) (hl : ¬ 64 < l0.length) : OverH l0 H ∧ H.length ≤ mu (initP l0) := by
  unfold PlayEnd at h
  rw [if_neg hl] at h
  obtain ⟨S, r, hp, hr, rfl⟩ := h
  obtain ⟨hI, scr', last, hr'⟩ := hp.keeps (P := PlayInv l0) PlayInv.step (PlayInv.init l0) ⟨scr, -1, rfl⟩
  rw [hr'] at hr
  have hfree := hI.l.free (pick_none hr)
  have hbg : ∀ (n : Nat) (c : PCl), S.cls[n]? = some c → c.begun = false := fun n c hc => by
    cases q : c.begun with
    | false => rfl
    | true => exact absurd (hfree n c hc) (hI.h.opn n c hc q)
  refine ⟨⟨hI.h.rng, fun n hn => ?_, ?_⟩, by have := hI.p.hist; omega⟩
  · have hn' : n < S.cls.length := by rw [hI.h.len]; exact hn
    obtain ⟨d, k1, k2⟩ := hI.h.cl n _ (List.getElem?_eq_getElem hn')
    refine ⟨d, ?_, ?_⟩
    · rw [k1]
      unfold opened
      rw [hbg n _ (List.getElem?_eq_getElem hn')]
      simp
    · rw [k2, hfree n _ (List.getElem?_eq_getElem hn'), List.append_nil]
  · rw [hI.h.bal]
    have : ∀ l : List PCl, (∀ c ∈ l, c.begun = false) → (l.map bg).sum = 0 := fun l hl => by
      induction l with
      | nil => rfl
      | cons a l ih =>
        simp only [List.map_cons, List.sum_cons, ih fun c hc => hl c (List.mem_cons_of_mem _ hc)]
        unfold bg
        rw [hl a (by simp)]
        rfl
    rw [this S.cls fun c hc => by
      obtain ⟨n, hn⟩ := List.mem_iff_getElem?.1 hc
      exact hbg n c hn]
    rfl
theorem mo_get {H : List PMo} {i : Nat} (h : i < H.length) : mo H i = H[i]'h := by
  show rd_T52 H (i : Nat) = _
  unfold rd_T52
  simp [h]
/-- where a beginning stands among the calls that are over -/
theorem pairs_split (n : Nat) {b : PMo} {post : List PMo} (hb : b.f1 = true) : ∀ (d : List (POp × PRep)) (pre : List PMo), pairs n d = pre ++ b :: post → ∃ (x : POp × PRep) (d1 d2 : List (POp × PRep)), d = d1 ++ x :: d2 ∧ pre = pairs n d1 ∧ b = ⟨(n : Nat), true, x.1, zRep⟩ ∧ post = ⟨(n : Nat), false, x.1, x.2⟩ :: pairs n d2
  | [], pre, h => by simp [pairs] at h
  | x :: d, pre, h => by
    match pre, h with
    | [], h =>
      have h' : (⟨(n : Nat), true, x.1, zRep⟩ : PMo) :: ⟨(n : Nat), false, x.1, x.2⟩ :: pairs n d = b :: post := h
      injection h' with e1 e2
      exact ⟨x, [], d, rfl, rfl, e1.symm, e2.symm⟩
    | [y], h =>
      have h' : (⟨(n : Nat), true, x.1, zRep⟩ : PMo) :: ⟨(n : Nat), false, x.1, x.2⟩ :: pairs n d = y :: b :: post := h
      injection h' with _ e2
      injection e2 with e2 _
      rw [← e2] at hb
      cases hb
    | y :: z :: pre, h =>
      have h' : (⟨(n : Nat), true, x.1, zRep⟩ : PMo) :: ⟨(n : Nat), false, x.1, x.2⟩ :: pairs n d = y :: z :: (pre ++ b :: post) := h
      injection h' with e1 e2
      injection e2 with e2 e3
      obtain ⟨x', d1, d2, k1, k2, k3, k4⟩ := pairs_split n hb d pre e3
      exact ⟨x', x :: d1, d2, by rw [k1]; rfl, by rw [k2, ← e1, ← e2]; rfl, k3, k4⟩
theorem first_of (n : Nat) : ∀ (l : List PMo) (e : PMo) (rest : List PMo), proj n l = e :: rest → ∃ k, ∃ h : k < l.length, l[k]'h = e ∧ e.f0 = (n : Int) ∧ ∀ k' (h' : k' < l.length), k' < k → (l[k']'h').f0 ≠ (n : Int)
  | [], e, rest, h => by simp [proj] at h
  | x :: l, e, rest, h => by
    unfold proj at h
    rw [List.filter_cons] at h
    by_cases hx : x.f0 = (n : Int)
    · rw [if_pos (by simp [hx])] at h
      injection h with h1 _
      exact ⟨0, by simp, h1, by rw [← h1]; exact hx, fun k' _ hk => by omega⟩
    · rw [if_neg (by simp [hx])] at h
      obtain ⟨k, hk, h1, h2, h3⟩ := first_of n l e rest h
      refine ⟨k + 1, by simpa using hk, by simpa using h1, h2, fun k' hk' hlt => ?_⟩
      match k', hk', hlt with
      | 0, _, _ => exact hx
      | k' + 1, hk', hlt => exact h3 k' (by simpa using hk') (by omega)
theorem proj_append (n : Nat) (l m : List PMo) : proj n (l ++ m) = proj n l ++ proj n m := List.filter_append ..
/-- a beginning and its end -/
theorem OverH.next {l0 : List (List POp)} {H : List PMo} (h : OverH l0 H) {i : Nat} (hi : i < H.length) (hb : (mo H i).f1 = true) :
    ∃ k, i < k ∧ k < H.length ∧ (mo H k).f0 = (mo H i).f0 ∧ (mo H k).f1 = false ∧ (mo H k).f2 = (mo H i).f2 ∧ ∀ k', i < k' → k' < k → (mo H k').f0 ≠ (mo H i).f0 := by
  rw [mo_get hi] at hb ⊢
  obtain ⟨n, hn, hf⟩ := h.rng _ (List.getElem_mem hi)
  obtain ⟨d, hd, _⟩ := h.cl n hn
  have hs : H = H.take i ++ H[i] :: H.drop (i + 1) := by rw [← List.drop_eq_getElem_cons hi, List.take_append_drop]
  have hp : proj n H = proj n (H.take i) ++ H[i] :: proj n (H.drop (i + 1)) := by
    conv => lhs; rw [hs]
    rw [proj_append]
    congr 1
    unfold proj
    rw [List.filter_cons, if_pos (by simp [hf])]
  rw [hd] at hp
  obtain ⟨x, d1, d2, _, _, hbx, hpost⟩ := pairs_split n hb d _ hp
  obtain ⟨k, hk, h1, h2, h3⟩ := first_of n _ _ _ hpost
  rw [List.length_drop] at hk
  have hk2 : i + 1 + k < H.length := by omega
  rw [List.getElem_drop] at h1
  refine ⟨i + 1 + k, by omega, hk2, ?_⟩
  rw [mo_get hk2, h1]
  refine ⟨by rw [hf], rfl, by rw [hbx], fun k' hk1 hk3 => ?_⟩
  have hk4 : k' < H.length := by omega
  rw [mo_get hk4, hf]
  have := h3 (k' - (i + 1)) (by rw [List.length_drop]; omega) (by omega)
  rw [List.getElem_drop] at this
  have e : i + 1 + (k' - (i + 1)) = k' := by omega
  simpa [e] using this
theorem callL_mem {H : List PMo} {nx : Nat → Nat} {c : PCall} : ∀ {i : Nat}, c ∈ callL H nx i → ∃ p, p < i ∧ (mo H p).f1 = true ∧ c = ⟨(p : Int), (nx p : Nat), (mo H p).f2, (mo H (nx p)).f3⟩
  | 0, h => by cases h
  | i + 1, h => by
    unfold callL at h
    rcases List.mem_append.1 h with q | q
    · obtain ⟨p, h1, h2⟩ := callL_mem q
      exact ⟨p, by omega, h2⟩
    · by_cases e : (mo H i).f1 = true
      · rw [if_pos e, List.mem_singleton] at q
        exact ⟨i, by omega, e, q⟩
      · rw [if_neg e] at q
        cases q
theorem callL_rest {H : List PMo} {nx : Nat → Nat} (n : Nat) : ∀ {i : Nat}, i ≤ H.length → ((callL H nx i).filter fun (c : PCall) => decide ((rd_T52 H c.f0).f0 = (n : Int))).map (·.f2) = ((proj n (H.take i)).filter fun (m : PMo) => m.f1).map (·.f2)
  | 0, _ => rfl
  | i + 1, hi => by
    have hil : i < H.length := by omega
    have ih := callL_rest (H := H) (nx := nx) n (i := i) (by omega)
    unfold callL
    rw [List.filter_append, List.map_append, ih, List.take_succ_eq_append_getElem hil, proj_append, List.filter_append, List.map_append]
    congr 1
    rw [← mo_get hil]
    unfold proj
    by_cases e : (mo H i).f1 = true
    · rw [if_pos e]
      by_cases q : (mo H i).f0 = (n : Int)
      · simp [q, e]
      · simp [q]
    · rw [if_neg e]
      by_cases q : (mo H i).f0 = (n : Int)
      · simp [q, e]
      · simp [q]
theorem endC_ce {H : List PMo} : ∀ {i : Nat}, i ≤ H.length → endC H i = ce (H.take i)
  | 0, _ => rfl
  | i + 1, hi => by
    have hil : i < H.length := by omega
    have ih := endC_ce (H := H) (i := i) (by omega)
    show endC H i + (if (mo H i).f1 = true then 0 else 1) = _
    unfold ce at *
    rw [ih, List.take_succ_eq_append_getElem hil, List.filter_append, List.length_append, ← mo_get hil]
    by_cases e : (mo H i).f1 = true
    · simp [e]
    · simp [e]
theorem cbce (H : List PMo) : cb H + ce H = H.length := by
  induction H with
  | nil => rfl
  | cons m H ih =>
    unfold cb ce at *
    rw [List.filter_cons, List.filter_cons]
    cases m.f1 <;> simp <;> omega
theorem pairs_begs (n : Nat) : ∀ d : List (POp × PRep), ((pairs n d).filter fun (m : PMo) => m.f1).map (·.f2) = d.map (·.1)
  | [] => rfl
  | x :: d => by
    have := pairs_begs n d
    simp [pairs, this]
theorem OverH.ends {l0 : List (List POp)} {H : List PMo} (h : OverH l0 H) (hl : H.length ≤ 16777216) : ∃ nx, EndsOk l0 H nx := by
  obtain ⟨nx, hnx⟩ : ∃ nx : Nat → Nat, ∀ i, i < H.length → (mo H i).f1 = true → i < nx i ∧ nx i < H.length ∧ (mo H (nx i)).f0 = (mo H i).f0 ∧ (mo H (nx i)).f1 = false ∧ (mo H (nx i)).f2 = (mo H i).f2 ∧ ∀ k', i < k' → k' < nx i → (mo H k').f0 ≠ (mo H i).f0 := by
    have : ∀ i, ∃ k, i < H.length → (mo H i).f1 = true → i < k ∧ k < H.length ∧ (mo H k).f0 = (mo H i).f0 ∧ (mo H k).f1 = false ∧ (mo H k).f2 = (mo H i).f2 ∧ ∀ k', i < k' → k' < k → (mo H k').f0 ≠ (mo H i).f0 := fun i => by
      by_cases hi : i < H.length ∧ (mo H i).f1 = true
      · obtain ⟨k, hk⟩ := h.next hi.1 hi.2
        exact ⟨k, fun _ _ => hk⟩
      · exact ⟨0, fun a b => absurd ⟨a, b⟩ hi⟩
    exact ⟨fun i => Classical.choose (this i), fun i => Classical.choose_spec (this i)⟩
  refine ⟨nx, ⟨⟨fun i hi hb => ⟨(hnx i hi hb).1, (hnx i hi hb).2.1⟩, fun i hi hb => (hnx i hi hb).2.2.1, fun i hi hb => (hnx i hi hb).2.2.2.1, fun i hi hb => (hnx i hi hb).2.2.2.2.1, fun i hi hb => (hnx i hi hb).2.2.2.2.2⟩, ?_, fun j c hc => ?_, fun n hn => ?_, hl⟩⟩
  · have h1 := endC_ce (H := H) (i := H.length) (Nat.le_refl _)
    have h2 := callL_len H nx H.length
    have h3 := cbce H
    have h4 := h.bal
    rw [List.take_length] at h1
    omega
  · obtain ⟨p, hp, hb, rfl⟩ := callL_mem (List.mem_of_getElem? hc)
    obtain ⟨n, hn, hf⟩ := h.rng _ (List.getElem_mem hp)
    exact ⟨p, n, rfl, hp, hn, by rw [mo_get hp]; exact hf⟩
  · unfold restC
    rw [List.drop_zero, callL_rest n (Nat.le_refl _), List.take_length]
    obtain ⟨d, hd, hd2⟩ := h.cl n hn
    rw [hd, pairs_begs, hd2]
theorem mo_old {H : List PMo} {m : PMo} {i : Nat} (h : i < H.length) : mo (H ++ [m]) i = mo H i := by
  rw [mo_get (by simp; omega), mo_get h, List.getElem_append_left h]
theorem mo_new {H : List PMo} {m : PMo} : mo (H ++ [m]) H.length = m := by
  rw [mo_get (by simp)]
  simp
/-- the table behind the first t effects (eff: where the calls begin, by effect) -/
def tabAt (H : List PMo) (eff : List Nat) : Nat → List (Int × ByteArray)
  | 0 => []
  | t + 1 => match eff[t]? with | some i => tabOf (tabAt H eff t) (mo H i).f2 | none => tabAt H eff t
theorem tabAt_hist {H : List PMo} {m : PMo} {eff : List Nat} (h : ∀ i ∈ eff, i < H.length) : ∀ t, tabAt (H ++ [m]) eff t = tabAt H eff t
  | 0 => rfl
  | t + 1 => by
    unfold tabAt
    cases q : eff[t]? with
    | none => exact tabAt_hist h t
    | some i =>
      simp only
      rw [tabAt_hist h t, mo_old (h i (List.mem_of_getElem? q))]
theorem tabAt_eff {H : List PMo} {eff : List Nat} {x : Nat} : ∀ t, t ≤ eff.length → tabAt H (eff ++ [x]) t = tabAt H eff t
  | 0, _ => rfl
  | t + 1, h => by
    unfold tabAt
    rw [List.getElem?_append_left (by omega), tabAt_eff t (by omega)]
/-- a call that is over: begun at i, ended at k -/
structure Closed (H : List PMo) (st ef : Nat → Nat) (eff : List Nat) (i k : Nat) : Prop where
  lt : i < k
  len : k < H.length
  cl : (mo H k).f0 = (mo H i).f0
  en : (mo H k).f1 = false
  op : (mo H k).f2 = (mo H i).f2
  no : ∀ j, i < j → j < k → (mo H j).f0 ≠ (mo H i).f0
  s1 : st i ≤ ef i
  s2 : ef i < st k
  at_ : eff[ef i]? = some i
  rep : (mo H k).f3 = repOf (tabAt H eff (ef i)) (mo H i).f2
/-- a call that its client is in -/
structure Opened (S : PSt) (st ef : Nat → Nat) (eff : List Nat) (n i : Nat) (c : PCl) : Prop where
  len : i < S.hist.length
  beg : (mo S.hist i).f1 = true
  cl : (mo S.hist i).f0 = (n : Int)
  op : ∃ rest, c.ops = (mo S.hist i).f2 :: rest
  no : ∀ j, i < j → j < S.hist.length → (mo S.hist j).f0 ≠ (n : Int)
  ev : ∀ r, c.reply = some r → st i ≤ ef i ∧ eff[ef i]? = some i ∧ r = repOf (tabAt S.hist eff (ef i)) (mo S.hist i).f2
  new : c.reply = none → i ∉ eff
structure TInv (S : PSt) (eff : List Nat) (st ef cur : Nat → Nat) : Prop where
  tab : S.L = tabAt S.hist eff eff.length
  sm : ∀ i j, i ≤ j → j < S.hist.length → st i ≤ st j
  sl : ∀ i, i < S.hist.length → st i ≤ eff.length
  beg : ∀ i, i < S.hist.length → (mo S.hist i).f1 = true → (∃ k, Closed S.hist st ef eff i k) ∨ ∃ (n : Nat) (c : PCl), S.cls[n]? = some c ∧ c.begun = true ∧ cur n = i
  opn : ∀ (n : Nat) (c : PCl), S.cls[n]? = some c → c.begun = true → Opened S st ef eff n (cur n) c
  cov : ∀ e i, eff[e]? = some i → i < S.hist.length ∧ (mo S.hist i).f1 = true ∧ ef i = e
  ok : ∀ i, i < S.hist.length → OpOk (mo S.hist i).f2
theorem TInv.in_eff {S : PSt} {eff : List Nat} {st ef cur : Nat → Nat} (h : TInv S eff st ef cur) {i : Nat} (hi : i ∈ eff) : i < S.hist.length := by
  obtain ⟨e, he⟩ := List.mem_iff_getElem?.1 hi
  exact (h.cov e i he).1
theorem Closed.hist {H : List PMo} {st ef : Nat → Nat} {eff : List Nat} {i k : Nat} (h : Closed H st ef eff i k) {m : PMo} {x : Nat} (he : ∀ i ∈ eff, i < H.length) : Closed (H ++ [m]) (fun j => if j = H.length then x else st j) ef eff i k := by
  have hk := h.len
  have hik := h.lt
  have hi : i < H.length := by omega
  refine ⟨hik, by simp; omega, ?_, ?_, ?_, fun j h1 h2 => ?_, ?_, ?_, h.at_, ?_⟩
  · rw [mo_old hk, mo_old hi]; exact h.cl
  · rw [mo_old hk]; exact h.en
  · rw [mo_old hk, mo_old hi]; exact h.op
  · rw [mo_old (by omega), mo_old hi]; exact h.no j h1 h2
  · rw [if_neg (by omega)]; exact h.s1
  · rw [if_neg (by omega)]; exact h.s2
  · rw [mo_old hk, mo_old hi, tabAt_hist he]; exact h.rep
theorem Closed.eff {H : List PMo} {st ef : Nat → Nat} {eff : List Nat} {i k x : Nat} (h : Closed H st ef eff i k) (hx : x ≠ i) : Closed H st (fun j => if j = x then eff.length else ef j) (eff ++ [x]) i k := by
  have hl : ef i < eff.length := (List.getElem?_eq_some_iff.1 h.at_).1
  refine ⟨h.lt, h.len, h.cl, h.en, h.op, h.no, ?_, ?_, ?_, ?_⟩
  · simp only [if_neg (Ne.symm hx)]; exact h.s1
  · simp only [if_neg (Ne.symm hx)]; exact h.s2
  · simp only [if_neg (Ne.symm hx)]
    rw [List.getElem?_append_left hl]; exact h.at_
  · simp only [if_neg (Ne.symm hx)]
    rw [tabAt_eff _ (by omega)]; exact h.rep
theorem sm_new {H : List PMo} {st : Nat → Nat} {x : Nat} (sm : ∀ i j, i ≤ j → j < H.length → st i ≤ st j) (sl : ∀ i, i < H.length → st i ≤ x) (m : PMo) : ∀ i j, i ≤ j → j < (H ++ [m]).length → (if i = H.length then x else st i) ≤ (if j = H.length then x else st j) := fun i j hij hj => by
  simp only [List.length_append, List.length_singleton] at hj
  by_cases e1 : j = H.length
  · rw [if_pos e1]
    split
    · exact Nat.le_refl _
    · exact sl i (by omega)
  · rw [if_neg e1, if_neg (by omega)]
    exact sm i j hij (by omega)
theorem TInv.step {S : PSt} {eff : List Nat} {st ef cur : Nat → Nat} (h : TInv S eff st ef cur) (hl : LInv S) {n : Nat} {c : PCl} (hn : S.cls[n]? = some c) {o : POp} {rest : List POp} (ho : c.ops = o :: rest) (hok : OpOk o) :
    ∃ eff' st' ef' cur', TInv (stepP S n c o rest) eff' st' ef' cur' := by
  have hin : ∀ i ∈ eff, i < S.hist.length := fun i hi => h.in_eff hi
  unfold stepP
  split
  · -- a call begins
    rename_i hb
    have hlen : (S.hist ++ [(⟨(n : Nat), true, o, zRep⟩ : PMo)]).length = S.hist.length + 1 := by simp
    have hother : ∀ (i : Nat) (d : PCl), S.cls[i]? = some d → d.begun = true → i ≠ n := fun i d hd hdb e => by
      subst e
      rw [hn] at hd
      cases hd
      rw [hb] at hdb
      cases hdb
    have hopn : ∀ (i : Nat) (d : PCl), S.cls[i]? = some d → d.begun = true → i ≠ n → Opened ⟨S.cls.set n { c with begun := true }, S.lk, S.L, S.hist ++ [⟨(n : Nat), true, o, zRep⟩]⟩ (fun j => if j = S.hist.length then eff.length else st j) ef eff i (cur i) d := fun i d hd hdb hin' => by
      have q := h.opn i d hd hdb
      refine ⟨by show _ < (S.hist ++ [_]).length; rw [hlen]; have := q.len; omega, ?_, ?_, ?_, fun j h1 h2 => ?_, fun r hr => ?_, q.new⟩
      · show (mo (S.hist ++ [_]) _).f1 = true
        rw [mo_old q.len]; exact q.beg
      · show (mo (S.hist ++ [_]) _).f0 = _
        rw [mo_old q.len]; exact q.cl
      · show ∃ rest, d.ops = (mo (S.hist ++ [_]) _).f2 :: rest
        rw [mo_old q.len]; exact q.op
      · show (mo (S.hist ++ [_]) _).f0 ≠ _
        have h2' : j < (S.hist ++ [(⟨(n : Nat), true, o, zRep⟩ : PMo)]).length := h2
        rw [hlen] at h2'
        by_cases e : j = S.hist.length
        · rw [e, mo_new]
          intro e2
          exact hin' (Int.ofNat_inj.1 e2).symm
        · rw [mo_old (by omega)]
          exact q.no j h1 (by omega)
      · obtain ⟨k1, k2, k3⟩ := q.ev r hr
        refine ⟨?_, k2, ?_⟩
        · rw [if_neg (by have := q.len; omega)]; exact k1
        · show r = repOf (tabAt (S.hist ++ [_]) _ _) (mo (S.hist ++ [_]) _).f2
          rw [tabAt_hist hin, mo_old q.len]; exact k3
    refine ⟨eff, fun j => if j = S.hist.length then eff.length else st j, ef, fun i => if i = n then S.hist.length else cur i, ?_, sm_new h.sm h.sl _, fun i hi => ?_, fun i hi hib => ?_, fun i d hd hdb => ?_, fun e i he => ?_, fun i hi => ?_⟩
    · show S.L = tabAt (S.hist ++ [_]) eff eff.length
      rw [tabAt_hist hin]; exact h.tab
    · have hi' : i < (S.hist ++ [(⟨(n : Nat), true, o, zRep⟩ : PMo)]).length := hi
      rw [hlen] at hi'
      show (if i = S.hist.length then eff.length else st i) ≤ eff.length
      split
      · exact Nat.le_refl _
      · exact h.sl i (by omega)
    · have hi' : i < (S.hist ++ [(⟨(n : Nat), true, o, zRep⟩ : PMo)]).length := hi
      rw [hlen] at hi'
      by_cases e : i = S.hist.length
      · refine .inr ⟨n, { c with begun := true }, (set_get hn).2 (.inl ⟨rfl, rfl⟩), rfl, by simp [e]⟩
      · have hib' : (mo (S.hist ++ [(⟨(n : Nat), true, o, zRep⟩ : PMo)]) i).f1 = true := hib
        rw [mo_old (by omega)] at hib'
        rcases h.beg i (by omega) hib' with ⟨k, hk⟩ | ⟨n', d, hd, hdb, hcur⟩
        · exact .inl ⟨k, hk.hist hin⟩
        · have hne := hother n' d hd hdb
          exact .inr ⟨n', d, (set_get hn).2 (.inr ⟨hne, hd⟩), hdb, by simp [hne, hcur]⟩
    · rcases (set_get hn).1 hd with ⟨rfl, rfl⟩ | ⟨hne, hd⟩
      · simp only [if_true]
        refine ⟨by show _ < (S.hist ++ [_]).length; rw [hlen]; omega, ?_, ?_, ⟨rest, ?_⟩, fun j h1 h2 => ?_, fun r hr => ?_, fun _ hmem => ?_⟩
        · show (mo (S.hist ++ [_]) _).f1 = true
          rw [mo_new]
        · show (mo (S.hist ++ [_]) _).f0 = _
          rw [mo_new]
        · show c.ops = (mo (S.hist ++ [_]) _).f2 :: rest
          rw [mo_new]; exact ho
        · have h2' : j < (S.hist ++ [(⟨(i : Nat), true, o, zRep⟩ : PMo)]).length := h2
          rw [hlen] at h2'
          omega
        · have hr' : c.reply = some r := hr
          rw [(hl.idle i c hn hb).1] at hr'
          cases hr'
        · have := hin _ hmem
          omega
      · simp only [if_neg hne]
        exact hopn i d hd hdb hne
    · obtain ⟨k1, k2, k3⟩ := h.cov e i he
      refine ⟨by show _ < (S.hist ++ [_]).length; rw [hlen]; omega, ?_, k3⟩
      show (mo (S.hist ++ [_]) i).f1 = true
      rw [mo_old k1]; exact k2
    · have hi' : i < (S.hist ++ [(⟨(n : Nat), true, o, zRep⟩ : PMo)]).length := hi
      rw [hlen] at hi'
      show OpOk (mo (S.hist ++ [_]) i).f2
      by_cases e : i = S.hist.length
      · rw [e, mo_new]; exact hok
      · rw [mo_old (by omega)]; exact h.ok i (by omega)
  · rename_i hb
    have hb1 : c.begun = true := by simpa using hb
    have hop := h.opn n c hn hb1
    obtain ⟨rest', hrest'⟩ := hop.op
    have hfo : (mo S.hist (cur n)).f2 = o := by
      rw [ho] at hrest'
      injection hrest' with e _
      exact e.symm
    split
    · -- a call ends
      rename_i r hr
      obtain ⟨g1, g2, g3⟩ := hop.ev r hr
      have hgl : ef (cur n) < eff.length := (List.getElem?_eq_some_iff.1 g2).1
      have hlen : (S.hist ++ [(⟨(n : Nat), false, o, r⟩ : PMo)]).length = S.hist.length + 1 := by simp
      refine ⟨eff, fun j => if j = S.hist.length then eff.length else st j, ef, cur, ?_, sm_new h.sm h.sl _, fun i hi => ?_, fun i hi hib => ?_, fun i d hd hdb => ?_, fun e i he => ?_, fun i hi => ?_⟩
      · show S.L = tabAt (S.hist ++ [_]) eff eff.length
        rw [tabAt_hist hin]; exact h.tab
      · have hi' : i < (S.hist ++ [(⟨(n : Nat), false, o, r⟩ : PMo)]).length := hi
        rw [hlen] at hi'
        show (if i = S.hist.length then eff.length else st i) ≤ eff.length
        split
        · exact Nat.le_refl _
        · exact h.sl i (by omega)
      · have hi' : i < (S.hist ++ [(⟨(n : Nat), false, o, r⟩ : PMo)]).length := hi
        rw [hlen] at hi'
        have hib' : (mo (S.hist ++ [(⟨(n : Nat), false, o, r⟩ : PMo)]) i).f1 = true := hib
        by_cases e : i = S.hist.length
        · rw [e, mo_new] at hib'
          cases hib'
        · rw [mo_old (by omega)] at hib'
          rcases h.beg i (by omega) hib' with ⟨k, hk⟩ | ⟨n', d, hd, hdb, hcur⟩
          · exact .inl ⟨k, hk.hist hin⟩
          · by_cases hne : n' = n
            · subst hne
              subst hcur
              refine .inl ⟨S.hist.length, hop.len, by rw [hlen]; omega, ?_, ?_, ?_, fun j h1 h2 => ?_, ?_, ?_, g2, ?_⟩
              · rw [mo_new, mo_old hop.len, hop.cl]
              · rw [mo_new]
              · rw [mo_new, mo_old hop.len, hfo]
              · rw [mo_old h2, mo_old hop.len, hop.cl]; exact hop.no j h1 h2
              · rw [if_neg (by have := hop.len; omega)]; exact g1
              · rw [if_pos rfl]; exact hgl
              · rw [mo_new, mo_old hop.len, tabAt_hist hin]; exact g3
            · exact .inr ⟨n', d, (set_get hn).2 (.inr ⟨hne, hd⟩), hdb, hcur⟩
      · rcases (set_get hn).1 hd with ⟨rfl, rfl⟩ | ⟨hne, hd⟩
        · cases hdb
        · have q := h.opn i d hd hdb
          refine ⟨by show _ < (S.hist ++ [_]).length; rw [hlen]; have := q.len; omega, ?_, ?_, ?_, fun j h1 h2 => ?_, fun r' hr' => ?_, q.new⟩
          · show (mo (S.hist ++ [_]) _).f1 = true
            rw [mo_old q.len]; exact q.beg
          · show (mo (S.hist ++ [_]) _).f0 = _
            rw [mo_old q.len]; exact q.cl
          · show ∃ rest, d.ops = (mo (S.hist ++ [_]) _).f2 :: rest
            rw [mo_old q.len]; exact q.op
          · show (mo (S.hist ++ [_]) _).f0 ≠ _
            have h2' : j < (S.hist ++ [(⟨(n : Nat), false, o, r⟩ : PMo)]).length := h2
            rw [hlen] at h2'
            by_cases e : j = S.hist.length
            · rw [e, mo_new]
              intro e2
              exact hne (Int.ofNat_inj.1 e2).symm
            · rw [mo_old (by omega)]
              exact q.no j h1 (by omega)
          · obtain ⟨k1, k2, k3⟩ := q.ev r' hr'
            refine ⟨?_, k2, ?_⟩
            · rw [if_neg (by have := q.len; omega)]; exact k1
            · show r' = repOf (tabAt (S.hist ++ [_]) _ _) (mo (S.hist ++ [_]) _).f2
              rw [tabAt_hist hin, mo_old q.len]; exact k3
      · obtain ⟨k1, k2, k3⟩ := h.cov e i he
        refine ⟨by show _ < (S.hist ++ [_]).length; rw [hlen]; omega, ?_, k3⟩
        show (mo (S.hist ++ [_]) i).f1 = true
        rw [mo_old k1]; exact k2
      · have hi' : i < (S.hist ++ [(⟨(n : Nat), false, o, r⟩ : PMo)]).length := hi
        rw [hlen] at hi'
        show OpOk (mo (S.hist ++ [_]) i).f2
        by_cases e : i = S.hist.length
        · rw [e, mo_new]; exact hok
        · rw [mo_old (by omega)]; exact h.ok i (by omega)
    · rename_i hr
      split
      · -- a lock is taken
        refine ⟨eff, st, ef, cur, h.tab, h.sm, h.sl, fun i hi hib => ?_, fun i d hd hdb => ?_, h.cov, h.ok⟩
        · rcases h.beg i hi hib with q | ⟨n', d, hd, hdb, hcur⟩
          · exact .inl q
          · by_cases hne : n' = n
            · subst hne
              exact .inr ⟨n', _, (set_get hn).2 (.inl ⟨rfl, rfl⟩), hb1, hcur⟩
            · exact .inr ⟨n', d, (set_get hn).2 (.inr ⟨hne, hd⟩), hdb, hcur⟩
        · rcases (set_get hn).1 hd with ⟨rfl, rfl⟩ | ⟨hne, hd⟩
          · exact ⟨hop.len, hop.beg, hop.cl, hop.op, hop.no, hop.ev, hop.new⟩
          · have q := h.opn i d hd hdb
            exact ⟨q.len, q.beg, q.cl, q.op, q.no, q.ev, q.new⟩
      · -- a call takes effect
        unfold effectP
        have hnew := hop.new hr
        have hcurne : ∀ (i : Nat) (d : PCl), S.cls[i]? = some d → d.begun = true → i ≠ n → cur i ≠ cur n := fun i d hd hdb hne e => by
          have q := h.opn i d hd hdb
          have h1 := q.cl
          rw [e, hop.cl] at h1
          exact hne (Int.ofNat_inj.1 h1).symm
        refine ⟨eff ++ [cur n], st, fun j => if j = cur n then eff.length else ef j, cur, ?_, h.sm, fun i hi => ?_, fun i hi hib => ?_, fun i d hd hdb => ?_, fun e i he => ?_, h.ok⟩
        · show tabOf S.L o = tabAt S.hist (eff ++ [cur n]) (eff ++ [cur n]).length
          rw [List.length_append, List.length_singleton]
          unfold tabAt
          rw [List.getElem?_append_right (Nat.le_refl _), Nat.sub_self]
          simp only [List.getElem?_cons_zero]
          rw [tabAt_eff _ (Nat.le_refl _), ← h.tab, hfo]
        · have := h.sl i hi
          simp only [List.length_append, List.length_singleton]
          omega
        · rcases h.beg i hi hib with ⟨k, hk⟩ | ⟨n', d, hd, hdb, hcur⟩
          · refine .inl ⟨k, hk.eff fun e => ?_⟩
            subst e
            exact hop.no k hk.lt hk.len (by rw [hk.cl]; exact hop.cl)
          · by_cases hne : n' = n
            · subst hne
              exact .inr ⟨n', _, (set_get hn).2 (.inl ⟨rfl, rfl⟩), hb1, hcur⟩
            · exact .inr ⟨n', d, (set_get hn).2 (.inr ⟨hne, hd⟩), hdb, hcur⟩
        · rcases (set_get hn).1 hd with ⟨rfl, rfl⟩ | ⟨hne, hd⟩
          · refine ⟨hop.len, hop.beg, hop.cl, hop.op, hop.no, fun r hr' => ?_, fun hr' => by cases hr'⟩
            have hr2 : some (repOf S.L o) = some r := hr'
            injection hr2 with hr2
            simp only [if_true]
            refine ⟨h.sl _ hop.len, by rw [List.getElem?_append_right (Nat.le_refl _), Nat.sub_self]; rfl, ?_⟩
            show r = repOf (tabAt S.hist (eff ++ [cur i]) eff.length) (mo S.hist (cur i)).f2
            rw [tabAt_eff _ (Nat.le_refl _), ← h.tab, hfo]
            exact hr2.symm
          · have q := h.opn i d hd hdb
            have hcn := hcurne i d hd hdb hne
            refine ⟨q.len, q.beg, q.cl, q.op, q.no, fun r hr' => ?_, fun hr' => ?_⟩
            · obtain ⟨k1, k2, k3⟩ := q.ev r hr'
              have hl2 : ef (cur i) < eff.length := (List.getElem?_eq_some_iff.1 k2).1
              simp only [if_neg hcn]
              refine ⟨k1, by rw [List.getElem?_append_left hl2]; exact k2, ?_⟩
              show r = repOf (tabAt S.hist (eff ++ [cur n]) (ef (cur i))) _
              rw [tabAt_eff _ (by omega)]
              exact k3
            · intro hm
              rcases List.mem_append.1 hm with q2 | q2
              · exact q.new hr' q2
              · exact hcn (List.mem_singleton.1 q2)
        · by_cases hel : e < eff.length
          · rw [List.getElem?_append_left hel] at he
            obtain ⟨k1, k2, k3⟩ := h.cov e i he
            refine ⟨k1, k2, ?_⟩
            have : i ≠ cur n := fun e2 => hnew (by rw [← e2]; exact List.mem_of_getElem? he)
            simp only [if_neg this]
            exact k3
          · rw [List.getElem?_append_right (by omega)] at he
            have h0 : e - eff.length = 0 := by
              have := (List.getElem?_eq_some_iff.1 he).1
              simp at this
              omega
            rw [h0] at he
            have hi2 : cur n = i := by simpa using he
            subst hi2
            refine ⟨hop.len, hop.beg, ?_⟩
            simp only [if_true]
            omega
theorem TInv.init (l0 : List (List POp)) : TInv (initP l0) [] (fun _ => 0) (fun _ => 0) fun _ => 0 := by
  refine ⟨rfl, fun i j _ hj => Nat.le_refl _, fun i hi => Nat.le_refl _, fun i hi => by simp [initP] at hi, fun n c hc hb => ?_, fun e i he => by simp at he, fun i hi => by simp [initP] at hi⟩
  unfold initP at hc
  rw [List.getElem?_map, Option.map_eq_some_iff] at hc
  obtain ⟨ops, h1, rfl⟩ := hc
  cases hb
/-- by the place of its beginning: each call's end (nx), its moment of effect (ef); the table at each moment (T) -/
structure Timed (H : List PMo) (nx ef : Nat → Nat) (N : Nat) (T : Nat → List (Int × ByteArray)) : Prop where
  good : Good H nx
  lt : ∀ i, i < H.length → (mo H i).f1 = true → ef i < N
  inj : ∀ i j, i < H.length → (mo H i).f1 = true → j < H.length → (mo H j).f1 = true → ef i = ef j → i = j
  surj : ∀ e, e < N → ∃ i, i < H.length ∧ (mo H i).f1 = true ∧ ef i = e
  t0 : T 0 = []
  ts : ∀ i, i < H.length → (mo H i).f1 = true → T (ef i + 1) = tabOf (T (ef i)) (mo H i).f2
  rep : ∀ i, i < H.length → (mo H i).f1 = true → (mo H (nx i)).f3 = repOf (T (ef i)) (mo H i).f2
  clock : ∀ i j, i < H.length → (mo H i).f1 = true → j < H.length → (mo H j).f1 = true → nx i < j → ef i < ef j
  ok : ∀ i, i < H.length → (mo H i).f1 = true → OpOk (mo H i).f2
structure PlayInv2 (l0 : List (List POp)) (S : PSt) : Prop where
  p : PlayInv l0 S
  t : ∃ eff st ef cur, TInv S eff st ef cur
theorem PlayInv2.step {l0 : List (List POp)} (S : PSt) (n : Nat) (c : PCl) (o : POp) (rest : List POp) (h : PlayInv2 l0 S) (hn : S.cls[n]? = some c) (ho : c.ops = o :: rest) (hc : canB S c = true) : PlayInv2 l0 (stepP S n c o rest) := by
  obtain ⟨eff, st, ef, cur, ht⟩ := h.t
  exact ⟨h.p.step S n c o rest hn ho hc, ht.step h.p.l hn ho ((h.p.p.ok n c hn).1 o (by rw [ho]; simp))⟩
theorem play_timed {l0 : List (List POp)} {scr : List Int} {H : List PMo} (h : PlayEnd l0 scr H) (hl : ¬ 64 < l0.length) : ∃ nx ef N T, Timed H nx ef N T := by
  unfold PlayEnd at h
  rw [if_neg hl] at h
  obtain ⟨S, r, hp, hr, rfl⟩ := h
  obtain ⟨hI, scr', last, hr'⟩ := hp.keeps (P := PlayInv2 l0) PlayInv2.step ⟨PlayInv.init l0, [], _, _, _, TInv.init l0⟩ ⟨scr, -1, rfl⟩
  rw [hr'] at hr
  obtain ⟨eff, st, ef, cur, ht⟩ := hI.t
  have hfree := hI.p.l.free (pick_none hr)
  have hbg : ∀ (n : Nat) (c : PCl), S.cls[n]? = some c → c.begun = true → False := fun n c hc q => hI.p.h.opn n c hc q (hfree n c hc)
  have hcl : ∀ i, i < S.hist.length → (mo S.hist i).f1 = true → ∃ k, Closed S.hist st ef eff i k := fun i hi hb => by
    rcases ht.beg i hi hb with q | ⟨n, c, hc, q, _⟩
    · exact q
    · exact (hbg n c hc q).elim
  obtain ⟨nx, hnx⟩ : ∃ nx : Nat → Nat, ∀ i, i < S.hist.length → (mo S.hist i).f1 = true → Closed S.hist st ef eff i (nx i) := by
    have : ∀ i, ∃ k, i < S.hist.length → (mo S.hist i).f1 = true → Closed S.hist st ef eff i k := fun i => by
      by_cases q : i < S.hist.length ∧ (mo S.hist i).f1 = true
      · obtain ⟨k, hk⟩ := hcl i q.1 q.2
        exact ⟨k, fun _ _ => hk⟩
      · exact ⟨0, fun a b => absurd ⟨a, b⟩ q⟩
    exact ⟨fun i => Classical.choose (this i), fun i => Classical.choose_spec (this i)⟩
  refine ⟨nx, ef, eff.length, tabAt S.hist eff, ⟨fun i hi hb => ⟨(hnx i hi hb).lt, (hnx i hi hb).len⟩, fun i hi hb => (hnx i hi hb).cl, fun i hi hb => (hnx i hi hb).en, fun i hi hb => (hnx i hi hb).op, fun i hi hb => (hnx i hi hb).no⟩,
    fun i hi hb => (List.getElem?_eq_some_iff.1 (hnx i hi hb).at_).1, fun i j hi hb hj hjb e => ?_, fun e he => ?_, rfl, fun i hi hb => ?_, fun i hi hb => (hnx i hi hb).rep, fun i j hi hb hj hjb hij => ?_, fun i hi hb => ht.ok i hi⟩
  · have h1 := (hnx i hi hb).at_
    rw [e, (hnx j hj hjb).at_] at h1
    exact (Option.some.inj h1).symm
  · obtain ⟨h1, h2, h3⟩ := ht.cov e _ (List.getElem?_eq_getElem he)
    exact ⟨_, h1, h2, h3⟩
  · show tabAt S.hist eff (ef i + 1) = _
    conv => lhs; unfold tabAt
    rw [(hnx i hi hb).at_]
  · have h1 := (hnx i hi hb).s2
    have h2 := (hnx j hj hjb).s1
    have h3 := ht.sm (nx i) j (Nat.le_of_lt hij) hj
    omega
/-! #### the calls as they are told -/
abbrev ca (cs : List PCall) (j : Nat) : PCall := rd_T57 cs (j : Nat)
theorem ca_get {cs : List PCall} {j : Nat} (h : j < cs.length) : ca cs j = cs[j]'h := by
  show rd_T57 cs (j : Nat) = _
  unfold rd_T57
  simp [h]
/-- calls, their moments of effect (tm), the table at each moment -/
structure CallsOk (cs : List PCall) (tm : Nat → Nat) (N : Nat) (T : Nat → List (Int × ByteArray)) : Prop where
  lt : ∀ j, j < cs.length → tm j < N
  inj : ∀ i j, i < cs.length → j < cs.length → tm i = tm j → i = j
  surj : ∀ e, e < N → ∃ j, j < cs.length ∧ tm j = e
  t0 : T 0 = []
  ts : ∀ j, j < cs.length → T (tm j + 1) = tabOf (T (tm j)) (ca cs j).f2
  rep : ∀ j, j < cs.length → (ca cs j).f3 = repOf (T (tm j)) (ca cs j).f2
  clock : ∀ i j, i < cs.length → j < cs.length → (ca cs i).f1 < (ca cs j).f0 → tm i < tm j
  ok : ∀ j, j < cs.length → OpOk (ca cs j).f2
theorem callL_at {H : List PMo} {nx : Nat → Nat} : ∀ (i : Nat), ∃ pos : Nat → Nat, (∀ j, j < (callL H nx i).length → pos j < i ∧ (mo H (pos j)).f1 = true ∧ ca (callL H nx i) j = ⟨((pos j : Nat) : Int), ((nx (pos j) : Nat) : Int), (mo H (pos j)).f2, (mo H (nx (pos j))).f3⟩) ∧
      (∀ j k, j < (callL H nx i).length → k < (callL H nx i).length → pos j = pos k → j = k) ∧ ∀ p, p < i → (mo H p).f1 = true → ∃ j, j < (callL H nx i).length ∧ pos j = p
  | 0 => ⟨fun _ => 0, fun j hj => by simp [callL] at hj, fun j k hj => by simp [callL] at hj, fun p hp => by omega⟩
  | i + 1 => by
    obtain ⟨pos, h1, h2, h3⟩ := callL_at (H := H) (nx := nx) i
    by_cases e : (mo H i).f1 = true
    · have hc : callL H nx (i + 1) = callL H nx i ++ [⟨(i : Int), (nx i : Nat), (mo H i).f2, (mo H (nx i)).f3⟩] := by
        show callL H nx i ++ _ = _
        rw [if_pos e]
      have hl : (callL H nx (i + 1)).length = (callL H nx i).length + 1 := by rw [hc]; simp
      refine ⟨fun j => if j = (callL H nx i).length then i else pos j, fun j hj => ?_, fun j k hj hk hjk => ?_, fun p hp hb => ?_⟩
      · rw [ca_get hj]
        by_cases q : j = (callL H nx i).length
        · subst q
          simp only [if_true]
          refine ⟨by omega, e, ?_⟩
          simp only [hc]
          rw [List.getElem_append_right (Nat.le_refl _)]
          simp
        · simp only [if_neg q]
          have hj' : j < (callL H nx i).length := by omega
          obtain ⟨k1, k2, k3⟩ := h1 j hj'
          refine ⟨by omega, k2, ?_⟩
          rw [← k3, ca_get hj']
          simp only [hc]
          rw [List.getElem_append_left hj']
      · have hjk' : (if j = (callL H nx i).length then i else pos j) = (if k = (callL H nx i).length then i else pos k) := hjk
        by_cases q1 : j = (callL H nx i).length <;> by_cases q2 : k = (callL H nx i).length
        · omega
        · rw [if_pos q1, if_neg q2] at hjk'
          have := (h1 k (by omega)).1
          omega
        · rw [if_neg q1, if_pos q2] at hjk'
          have := (h1 j (by omega)).1
          omega
        · rw [if_neg q1, if_neg q2] at hjk'
          exact h2 j k (by omega) (by omega) hjk'
      · by_cases q : p = i
        · exact ⟨(callL H nx i).length, by omega, by simp [q]⟩
        · obtain ⟨j, hj, hp2⟩ := h3 p (by omega) hb
          exact ⟨j, by omega, by simp only [if_neg (show ¬ j = (callL H nx i).length by omega)]; exact hp2⟩
    · have hc : callL H nx (i + 1) = callL H nx i := by
        show callL H nx i ++ _ = _
        rw [if_neg e, List.append_nil]
      rw [hc]
      refine ⟨pos, fun j hj => ?_, h2, fun p hp hb => ?_⟩
      · obtain ⟨k1, k2⟩ := h1 j hj
        exact ⟨by omega, k2⟩
      · refine h3 p ?_ hb
        rcases Nat.lt_or_ge p i with q | q
        · exact q
        · obtain rfl : p = i := by omega
          exact absurd hb e
theorem Timed.calls {H : List PMo} {nx ef : Nat → Nat} {N : Nat} {T : Nat → List (Int × ByteArray)} (h : Timed H nx ef N T) : ∃ tm, CallsOk (callL H nx H.length) tm N T := by
  obtain ⟨pos, h1, h2, h3⟩ := callL_at (H := H) (nx := nx) H.length
  refine ⟨fun j => ef (pos j), fun j hj => h.lt _ (h1 j hj).1 (h1 j hj).2.1, fun i j hi hj e => h2 i j hi hj (h.inj _ _ (h1 i hi).1 (h1 i hi).2.1 (h1 j hj).1 (h1 j hj).2.1 e), fun e he => ?_, h.t0, fun j hj => ?_, fun j hj => ?_, fun i j hi hj hij => ?_, fun j hj => ?_⟩
  · obtain ⟨p, p1, p2, p3⟩ := h.surj e he
    obtain ⟨j, hj, hp⟩ := h3 p p1 p2
    exact ⟨j, hj, by rw [hp]; exact p3⟩
  · rw [(h1 j hj).2.2]
    exact h.ts _ (h1 j hj).1 (h1 j hj).2.1
  · rw [(h1 j hj).2.2]
    exact h.rep _ (h1 j hj).1 (h1 j hj).2.1
  · rw [(h1 i hi).2.2, (h1 j hj).2.2] at hij
    have hij' : ((nx (pos i) : Nat) : Int) < ((pos j : Nat) : Int) := hij
    exact h.clock _ _ (h1 i hi).1 (h1 i hi).2.1 (h1 j hj).1 (h1 j hj).2.1 (by omega)
  · rw [(h1 j hj).2.2]
    exact h.ok _ (h1 j hj).1 (h1 j hj).2.1
def seesB (c : PCall) (k : Int) : Bool := if c.f2.f0 = 3 then decide (k ∈ c.f3.f2) else (decide (c.f2.f1 = k) && ((c.f2.f0 == 1) != c.f3.f0))
def missesB (c : PCall) (k : Int) : Bool := if c.f2.f0 = 3 then !seesB c k else (decide (c.f2.f1 = k) && (decide (c.f2.f0 = 2) && !c.f3.f0))
def madeB (c : PCall) : Bool := decide (c.f2.f0 = 1) && c.f3.f0
def aheadB (a b : PCall) : Bool := decide (a.f1 < b.f0) || (madeB a && seesB b a.f2.f1) || (madeB b && missesB a b.f2.f1)
section
variable {cs : List PCall} {tm : Nat → Nat} {N : Nat} {T : Nat → List (Int × ByteArray)}
theorem lookL_tab {L : List (Int × ByteArray)} {o : POp} (k : Int) : lookL (tabOf L o) k = if o.f0 = 1 ∧ lookL L o.f1 = none ∧ k = o.f1 then some o.f2 else lookL L k := by
  unfold tabOf
  by_cases h : o.f0 = 1 ∧ (lookL L o.f1).isNone = true
  · rw [if_pos h]
    have hn : lookL L o.f1 = none := by simpa using h.2
    rw [lookL_put _ _ _ hn]
    by_cases e : k = o.f1
    · rw [if_pos e, if_pos ⟨h.1, hn, e⟩]
    · rw [if_neg e, if_neg (fun q => e q.2.2)]
  · rw [if_neg h, if_neg (fun q => h ⟨q.1, by rw [q.2.1]; rfl⟩)]
theorem tab_rising {L : List (Int × ByteArray)} {o : POp} (h : (L.map (·.1)).Pairwise (· < ·)) : ((tabOf L o).map (·.1)).Pairwise (· < ·) := by
  unfold tabOf
  split
  · rename_i q
    refine putL_rising h fun hm => ?_
    have := (lookL_iff L o.f1).1 hm
    simp at q
    exact this q.2
  · exact h
theorem CallsOk.rising (h : CallsOk cs tm N T) : ∀ t, t ≤ N → ((T t).map (·.1)).Pairwise (· < ·)
  | 0, _ => by rw [h.t0]; exact List.Pairwise.nil
  | t + 1, ht => by
    obtain ⟨j, hj, e⟩ := h.surj t (by omega)
    rw [← e, h.ts j hj, e]
    exact tab_rising (h.rising t (by omega))
theorem CallsOk.mono (h : CallsOk cs tm N T) {k : Int} {v : ByteArray} {t : Nat} (hk : lookL (T t) k = some v) : ∀ d, t + d ≤ N → lookL (T (t + d)) k = some v
  | 0, _ => hk
  | d + 1, hd => by
    have ih := h.mono hk d (by omega)
    obtain ⟨j, hj, e⟩ := h.surj (t + d) (by omega)
    rw [show t + (d + 1) = tm j + 1 by omega, h.ts j hj, e, lookL_tab]
    rw [if_neg (fun q => by rw [q.2.2, q.2.1] at ih; cases ih)]
    exact ih
/-- this call gave the key its value -/
def Makes (cs : List PCall) (j : Nat) (k : Int) (v : ByteArray) : Prop := (ca cs j).f2.f0 = 1 ∧ (ca cs j).f3.f0 = true ∧ (ca cs j).f2.f1 = k ∧ (ca cs j).f2.f2 = v
theorem CallsOk.makes_none (h : CallsOk cs tm N T) {j : Nat} (hj : j < cs.length) {k : Int} {v : ByteArray} (hm : Makes cs j k v) : lookL (T (tm j)) k = none := by
  have hr := h.rep j hj
  have h2 := hm.2.1
  rw [hr] at h2
  unfold repOf at h2
  rw [if_pos hm.1, hm.2.2.1] at h2
  simpa using h2
theorem CallsOk.makes_some (h : CallsOk cs tm N T) {j : Nat} (hj : j < cs.length) {k : Int} {v : ByteArray} (hm : Makes cs j k v) {t : Nat} (ht : tm j < t) (htN : t ≤ N) : lookL (T t) k = some v := by
  have h1 : lookL (T (tm j + 1)) k = some v := by
    rw [h.ts j hj, lookL_tab, if_pos ⟨hm.1, by rw [hm.2.2.1]; exact h.makes_none hj hm, hm.2.2.1.symm⟩, hm.2.2.2]
  have := h.mono h1 (t - (tm j + 1)) (by omega)
  rwa [show tm j + 1 + (t - (tm j + 1)) = t by omega] at this
theorem CallsOk.maker (h : CallsOk cs tm N T) {k : Int} {v : ByteArray} : ∀ t, t ≤ N → lookL (T t) k = some v → ∃ j, j < cs.length ∧ tm j < t ∧ Makes cs j k v
  | 0, _, hk => by rw [h.t0] at hk; cases hk
  | t + 1, ht, hk => by
    obtain ⟨j, hj, e⟩ := h.surj t (by omega)
    rw [← e, h.ts j hj, e, lookL_tab] at hk
    by_cases q : (ca cs j).f2.f0 = 1 ∧ lookL (T t) (ca cs j).f2.f1 = none ∧ k = (ca cs j).f2.f1
    · rw [if_pos q] at hk
      refine ⟨j, hj, by omega, q.1, ?_, q.2.2.symm, Option.some.inj hk⟩
      rw [h.rep j hj, e]
      unfold repOf
      rw [if_pos q.1]
      simp [q.2.1]
    · rw [if_neg q] at hk
      obtain ⟨i, hi, h1, h2⟩ := h.maker t (by omega) hk
      exact ⟨i, hi, by omega, h2⟩
theorem CallsOk.sees (h : CallsOk cs tm N T) {j : Nat} (hj : j < cs.length) (k : Int) (hs : seesB (ca cs j) k = true) : ∃ v, lookL (T (tm j)) k = some v := by
  have hr := h.rep j hj
  have hok := h.ok j hj
  unfold seesB at hs
  rw [hr] at hs
  unfold repOf at hs
  rcases hok with q | q | q
  · rw [if_neg (by omega), if_pos q] at hs
    simp [q] at hs
    cases hl : lookL (T (tm j)) k with
    | none => rw [← hs.1] at hl; rw [hl] at hs; simp at hs
    | some v => exact ⟨v, rfl⟩
  · rw [if_neg (by omega), if_neg (by omega), if_pos q] at hs
    simp [q] at hs
    cases hl : lookL (T (tm j)) k with
    | none => rw [← hs.1] at hl; rw [hl] at hs; simp at hs
    | some v => exact ⟨v, rfl⟩
  · rw [if_pos q, if_neg (by omega), if_neg (by omega)] at hs
    have h3 := (lookL_iff (T (tm j)) k).1 (of_decide_eq_true hs)
    exact Option.ne_none_iff_exists'.1 h3
theorem CallsOk.misses (h : CallsOk cs tm N T) {j : Nat} (hj : j < cs.length) (k : Int) (hs : missesB (ca cs j) k = true) : lookL (T (tm j)) k = none := by
  have hr := h.rep j hj
  have hok := h.ok j hj
  unfold missesB seesB at hs
  rw [hr] at hs
  unfold repOf at hs
  rcases hok with q | q | q
  · rw [if_neg (by omega)] at hs
    simp [q] at hs
  · rw [if_neg (by omega), if_neg (by omega), if_pos q] at hs
    simp [q] at hs
    rw [← hs.1]
    exact hs.2
  · rw [if_pos q, if_pos q, if_neg (by omega), if_neg (by omega)] at hs
    cases hl : lookL (T (tm j)) k with
    | none => rfl
    | some v =>
      have := (lookL_iff (T (tm j)) k).2 (by rw [hl]; simp)
      simp at hs this
      obtain ⟨b, hb⟩ := this
      exact absurd hb (hs b)
/-- what must come ahead does so by the moments of effect -/
theorem CallsOk.ahead (h : CallsOk cs tm N T) {i j : Nat} (hi : i < cs.length) (hj : j < cs.length) (hij : i ≠ j) (ha : aheadB (ca cs i) (ca cs j) = true) : tm i < tm j := by
  have hli := h.lt i hi
  have hlj := h.lt j hj
  have hne : tm i ≠ tm j := fun e => hij (h.inj i j hi hj e)
  unfold aheadB at ha
  simp only [Bool.or_eq_true, Bool.and_eq_true, decide_eq_true_eq] at ha
  rcases ha with (q | ⟨q1, q2⟩) | ⟨q1, q2⟩
  · exact h.clock i j hi hj q
  · unfold madeB at q1
    simp only [Bool.and_eq_true, decide_eq_true_eq] at q1
    obtain ⟨v, hv⟩ := h.sees hj _ q2
    have hm : Makes cs i (ca cs i).f2.f1 (ca cs i).f2.f2 := ⟨q1.1, q1.2, rfl, rfl⟩
    have h0 := h.makes_none hi hm
    rcases Nat.lt_or_ge (tm i) (tm j) with q | q
    · exact q
    · have := h.mono hv (tm i - tm j) (by omega)
      rw [show tm j + (tm i - tm j) = tm i by omega, h0] at this
      cases this
  · unfold madeB at q1
    simp only [Bool.and_eq_true, decide_eq_true_eq] at q1
    have h0 := h.misses hi _ q2
    have hm : Makes cs j (ca cs j).f2.f1 (ca cs j).f2.f2 := ⟨q1.1, q1.2, rfl, rfl⟩
    rcases Nat.lt_or_ge (tm i) (tm j) with q | q
    · exact q
    · have := h.makes_some hj hm (t := tm i) (by omega) (by omega)
      rw [h0] at this
      cases this
theorem made_of {j : Nat} {k : Int} {v : ByteArray} (hm : Makes cs j k v) : madeB (ca cs j) = true ∧ (ca cs j).f2.f1 = k := ⟨by unfold madeB; simp [hm.1, hm.2.1], hm.2.2.1⟩
/-- the calls that were taken (D), and the plain map's table (LD) -/
structure Taken (cs : List PCall) (D : Nat → Bool) (LD : List (Int × ByteArray)) : Prop where
  closed : ∀ j, j < cs.length → D j = true → ∀ i, i < cs.length → i ≠ j → aheadB (ca cs i) (ca cs j) = true → D i = true
  rising : (LD.map (·.1)).Pairwise (· < ·)
  look : ∀ k v, lookL LD k = some v ↔ ∃ j, j < cs.length ∧ D j = true ∧ Makes cs j k v
theorem rising_pairs : ∀ {L M : List (Int × ByteArray)}, (L.map (·.1)).Pairwise (· < ·) → (M.map (·.1)).Pairwise (· < ·) → (∀ k, lookL L k = lookL M k) → L = M
  | L, M, hL, hM, h => by
    have hk : L.map (·.1) = M.map (·.1) := rising_ext hL hM fun x => by rw [lookL_iff, lookL_iff, h x]
    have hv : ∀ (i : Nat) (x : Int × ByteArray), L[i]? = some x → M[i]? = some x := fun i x hx => by
      have h1 : (L.map (·.1))[i]? = some x.1 := by rw [List.getElem?_map, hx]; rfl
      rw [hk, List.getElem?_map, Option.map_eq_some_iff] at h1
      obtain ⟨y, hy, hxy⟩ := h1
      have e1 := lookL_mem hL x (List.mem_of_getElem? hx)
      have e2 := lookL_mem hM y (List.mem_of_getElem? hy)
      rw [hxy, ← h x.1, e1] at e2
      rw [hy]
      congr 1
      exact Prod.ext hxy (Option.some.inj e2).symm
    have hl : L.length = M.length := by simpa using congrArg List.length hk
    refine List.ext_getElem? fun i => ?_
    cases q : L[i]? with
    | none => exact (List.getElem?_eq_none (by rw [← hl]; exact List.getElem?_eq_none_iff.1 q)).symm
    | some x => exact (hv i x q).symm
theorem Taken.step (hc : CallsOk cs tm N T) {D : Nat → Bool} {LD : List (Int × ByteArray)} (h : Taken cs D LD) {j : Nat} (hj : j < cs.length) (hD : D j = false) (hw : ∀ i, i < cs.length → D i = false → i ≠ j → aheadB (ca cs i) (ca cs j) = false) :
    repOf LD (ca cs j).f2 = (ca cs j).f3 ∧ Taken cs (fun i => if i = j then true else D i) (tabOf LD (ca cs j).f2) := by
  have hN := hc.lt j hj
  have hahead : ∀ i, i < cs.length → i ≠ j → aheadB (ca cs i) (ca cs j) = true → D i = true := fun i hi hij ha => by
    cases q : D i with
    | true => rfl
    | false => rw [hw i hi q hij] at ha; cases ha
  have hnot : ∀ i, i < cs.length → D i = true → i ≠ j → aheadB (ca cs j) (ca cs i) = true → False := fun i hi hDi hij ha => by
    have := h.closed i hi hDi j hj (Ne.symm hij) ha
    rw [hD] at this
    cases this
  have hDne : ∀ i, D i = true → i ≠ j := fun i hDi e => by rw [e, hD] at hDi; cases hDi
  -- seen keys are there; missed keys are not
  have hsee : ∀ k, seesB (ca cs j) k = true → lookL LD k = lookL (T (tm j)) k := fun k hs => by
    obtain ⟨v, hv⟩ := hc.sees hj k hs
    obtain ⟨i, hi, hti, hm⟩ := hc.maker (tm j) (by omega) hv
    have hij : i ≠ j := fun e => by rw [e] at hti; omega
    obtain ⟨m1, m2⟩ := made_of hm
    have hDi := hahead i hi hij (by unfold aheadB; rw [m1, m2, hs]; simp)
    rw [hv]
    exact (h.look k v).2 ⟨i, hi, hDi, hm⟩
  have hmiss : ∀ k, missesB (ca cs j) k = true → lookL LD k = lookL (T (tm j)) k := fun k hs => by
    rw [hc.misses hj k hs]
    cases q : lookL LD k with
    | none => rfl
    | some v =>
      obtain ⟨i, hi, hDi, hm⟩ := (h.look k v).1 q
      obtain ⟨m1, m2⟩ := made_of hm
      exact (hnot i hi hDi (hDne i hDi) (by unfold aheadB; rw [m1, m2, hs]; simp)).elim
  have hmake : ∀ v, Makes cs j (ca cs j).f2.f1 v → lookL LD (ca cs j).f2.f1 = none := fun v hm => by
    cases q : lookL LD (ca cs j).f2.f1 with
    | none => rfl
    | some u =>
      obtain ⟨i, hi, hDi, hm'⟩ := (h.look _ u).1 q
      have hij := hDne i hDi
      have hli := hc.lt i hi
      rcases Nat.lt_trichotomy (tm i) (tm j) with q2 | q2 | q2
      · have := hc.makes_some hi hm' q2 (by omega)
        rw [hc.makes_none hj hm] at this
        cases this
      · exact absurd (hc.inj i j hi hj q2) hij
      · have := hc.makes_some hj hm q2 (by omega)
        rw [hc.makes_none hi hm'] at this
        cases this
  have hrep := hc.rep j hj
  have hcl : ∀ a, a < cs.length → (if a = j then true else D a) = true → ∀ i, i < cs.length → i ≠ a → aheadB (ca cs i) (ca cs a) = true → (if i = j then true else D i) = true := fun a ha hDa i hi hia haa => by
    by_cases e : i = j
    · rw [if_pos e]
    · rw [if_neg e]
      by_cases e2 : a = j
      · subst e2
        exact hahead i hi hia haa
      · rw [if_neg e2] at hDa
        exact h.closed a ha hDa i hi hia haa
  have hlook : (∀ v, (Makes cs j (ca cs j).f2.f1 v → v = (ca cs j).f2.f2)) := fun v hm => hm.2.2.2.symm
  have hsame : ∀ {P : Prop}, ((ca cs j).f2.f0 = 1 ∧ lookL LD (ca cs j).f2.f1 = none ↔ P) → (P ↔ (ca cs j).f2.f0 = 1 ∧ (ca cs j).f3.f0 = true) → Taken cs (fun i => if i = j then true else D i) (tabOf LD (ca cs j).f2) := fun {P} hp hp2 => by
    refine ⟨hcl, tab_rising h.rising, fun k v => ?_⟩
    rw [lookL_tab]
    by_cases q : (ca cs j).f2.f0 = 1 ∧ lookL LD (ca cs j).f2.f1 = none ∧ k = (ca cs j).f2.f1
    · have hmk := hp2.1 (hp.1 ⟨q.1, q.2.1⟩)
      rw [if_pos q]
      constructor
      · intro e
        exact ⟨j, hj, by simp, hmk.1, hmk.2, q.2.2.symm, Option.some.inj e⟩
      · rintro ⟨i, hi, hDi, hm⟩
        by_cases e : i = j
        · subst e
          rw [hm.2.2.2]
        · rw [if_neg e] at hDi
          have := (h.look k v).2 ⟨i, hi, hDi, hm⟩
          rw [q.2.2, q.2.1] at this
          cases this
    · rw [if_neg q, h.look k v]
      constructor
      · rintro ⟨i, hi, hDi, hm⟩
        exact ⟨i, hi, by simp [hDi], hm⟩
      · rintro ⟨i, hi, hDi, hm⟩
        by_cases e : i = j
        · subst e
          have h2 := hp.2 (hp2.2 ⟨hm.1, hm.2.1⟩)
          exact absurd ⟨h2.1, h2.2, hm.2.2.1.symm⟩ q
        · rw [if_neg e] at hDi
          exact ⟨i, hi, hDi, hm⟩
  rcases hc.ok j hj with q | q | q
  · -- Publish
    have hr1 : (ca cs j).f3.f0 = (lookL (T (tm j)) (ca cs j).f2.f1).isNone := by rw [hrep]; unfold repOf; rw [if_pos q]
    have heq : lookL LD (ca cs j).f2.f1 = none ↔ (ca cs j).f3.f0 = true := by
      cases hb : (ca cs j).f3.f0 with
      | true => exact ⟨fun _ => rfl, fun _ => hmake _ ⟨q, hb, rfl, rfl⟩⟩
      | false =>
        have hs : seesB (ca cs j) (ca cs j).f2.f1 = true := by unfold seesB; rw [if_neg (by omega)]; simp [q, hb]
        rw [hsee _ hs]
        rw [hb] at hr1
        constructor
        · intro e; rw [e] at hr1; simp at hr1
        · intro e; cases e
    refine ⟨?_, hsame (P := (ca cs j).f2.f0 = 1 ∧ (ca cs j).f3.f0 = true) ⟨fun e => ⟨e.1, heq.1 e.2⟩, fun e => ⟨e.1, heq.2 e.2⟩⟩ Iff.rfl⟩
    have h1 : (lookL LD (ca cs j).f2.f1).isNone = (ca cs j).f3.f0 := by
      cases hb : (ca cs j).f3.f0 with
      | true => rw [heq.2 hb]; rfl
      | false =>
        cases hl : lookL LD (ca cs j).f2.f1 with
        | none => have := heq.1 hl; rw [hb] at this; cases this
        | some v => rfl
    unfold repOf
    rw [if_pos q, h1, hr1]
    conv => rhs; rw [hrep]
    unfold repOf
    rw [if_pos q]
  · -- Lookup
    have hsm : lookL LD (ca cs j).f2.f1 = lookL (T (tm j)) (ca cs j).f2.f1 := by
      cases hb : (ca cs j).f3.f0 with
      | true => exact hsee _ (by unfold seesB; rw [if_neg (by omega)]; simp [q, hb])
      | false => exact hmiss _ (by unfold missesB; rw [if_neg (by omega)]; simp [q, hb])
    refine ⟨?_, hsame (P := False) ⟨fun e => by have := e.1; omega, fun e => e.elim⟩ ⟨fun e => e.elim, fun e => by have := e.1; omega⟩⟩
    conv => rhs; rw [hrep]
    unfold repOf
    rw [if_neg (by omega), if_pos q, if_neg (by omega), if_pos q, hsm]
  · -- Snapshot
    have hall : ∀ k, lookL LD k = lookL (T (tm j)) k := fun k => by
      cases hs : seesB (ca cs j) k with
      | true => exact hsee k hs
      | false => exact hmiss k (by unfold missesB; rw [if_pos q, hs]; rfl)
    have hLT := rising_pairs h.rising (hc.rising (tm j) (by omega)) hall
    refine ⟨?_, hsame (P := False) ⟨fun e => by have := e.1; omega, fun e => e.elim⟩ ⟨fun e => e.elim, fun e => by have := e.1; omega⟩⟩
    conv => rhs; rw [hrep]
    rw [hLT]
theorem Taken.start (cs : List PCall) : Taken cs (fun _ => false) [] := ⟨(fun j _ h => by cases h), List.Pairwise.nil, fun k v => ⟨(fun h => by cases h), (fun ⟨j, _, h, _⟩ => by cases h)⟩⟩
/-! #### how many must come ahead -/
def waitN (cs : List PCall) (D : Nat → Bool) (i n : Nat) : Nat := ((List.range n).filter fun k => !D k && (decide (k ≠ i) && aheadB (ca cs k) (ca cs i))).length
theorem waitN_zero {D : Nat → Bool} {i : Nat} (h : waitN cs D i cs.length = 0) : ∀ k, k < cs.length → D k = false → k ≠ i → aheadB (ca cs k) (ca cs i) = false := fun k hk hD hne => by
  unfold waitN at h
  have h1 := List.eq_nil_of_length_eq_zero h
  cases q : aheadB (ca cs k) (ca cs i) with
  | false => rfl
  | true =>
    have : k ∈ (List.range cs.length).filter fun k => !D k && (decide (k ≠ i) && aheadB (ca cs k) (ca cs i)) := List.mem_filter.2 ⟨List.mem_range.2 hk, by simp [hD, hne, q]⟩
    rw [h1] at this
    cases this
theorem waitN_take {D : Nat → Bool} {i j : Nat} (hij : j ≠ i) (hD : D j = false) : ∀ n, waitN cs (fun k => if k = j then true else D k) i n + (if j < n ∧ aheadB (ca cs j) (ca cs i) = true then 1 else 0) = waitN cs D i n
  | 0 => by simp [waitN]
  | n + 1 => by
    have ih := waitN_take (i := i) hij hD n
    have hs : ∀ E : Nat → Bool, waitN cs E i (n + 1) = waitN cs E i n + if (!E n && (decide (n ≠ i) && aheadB (ca cs n) (ca cs i))) = true then 1 else 0 := fun E => by
      unfold waitN
      rw [List.range_succ, List.filter_append, List.length_append]
      congr 1
      by_cases q : (!E n && (decide (n ≠ i) && aheadB (ca cs n) (ca cs i))) = true
      · rw [if_pos q]
        simp only [List.filter_cons, List.filter_nil]
        rw [if_pos q]
        rfl
      · rw [if_neg q]
        simp only [List.filter_cons, List.filter_nil]
        rw [if_neg q]
        rfl
    rw [hs, hs, ← ih]
    by_cases e : n = j
    · subst e
      simp only [if_true, Bool.not_true, Bool.false_and, hD, Bool.not_false, Bool.true_and]
      have h1 : ¬ (n < n ∧ aheadB (ca cs n) (ca cs i) = true) := fun q => by omega
      rw [if_neg h1]
      by_cases q : aheadB (ca cs n) (ca cs i) = true
      · simp [q, hij]
      · simp [q]
    · simp only [if_neg e]
      by_cases q : j < n
      · have h1 : j < n + 1 := by omega
        simp only [q, h1, true_and]
        omega
      · have h1 : ¬ j < n + 1 := by omega
        simp only [q, h1, false_and, if_false]
        omega
/-- one can be taken -/
theorem CallsOk.next (hc : CallsOk cs tm N T) (D : Nat → Bool) (hex : ∃ j, j < cs.length ∧ D j = false) : ∃ j, j < cs.length ∧ D j = false ∧ waitN cs D j cs.length = 0 := by
  have key : ∀ b j, j < cs.length → D j = false → tm j ≤ b → ∃ j, j < cs.length ∧ D j = false ∧ waitN cs D j cs.length = 0 := by
    intro b
    induction b with
    | zero =>
      intro j hj hD hb
      refine ⟨j, hj, hD, ?_⟩
      unfold waitN
      rw [List.length_eq_zero_iff, List.filter_eq_nil_iff]
      intro k hk hk2
      simp only [Bool.and_eq_true, Bool.not_eq_true', decide_eq_true_eq] at hk2
      have := hc.ahead (List.mem_range.1 hk) hj hk2.2.1 hk2.2.2
      omega
    | succ b ih =>
      intro j hj hD hb
      by_cases q : waitN cs D j cs.length = 0
      · exact ⟨j, hj, hD, q⟩
      · unfold waitN at q
        obtain ⟨k, hk⟩ := List.exists_mem_of_length_pos (Nat.pos_of_ne_zero q)
        obtain ⟨h1, h2⟩ := List.mem_filter.1 hk
        simp only [Bool.and_eq_true, Bool.not_eq_true', decide_eq_true_eq] at h2
        have := hc.ahead (List.mem_range.1 h1) hj h2.2.1 h2.2.2
        exact ih k (List.mem_range.1 h1) h2.1 (by omega)
  obtain ⟨j, hj, hD⟩ := hex
  exact key (tm j) j hj hD (Nat.le_refl _)
end
end Go.Proofs.Ytihjpbalkjhjbaa
namespace Go.Proofs.Ytihjpbalkjhjbaa
open Go.RowKit Go.MapKept Go.MuLone Go.Shelf Go.Proofs.YtihjpbalkjhjbaaW.PrintWords Go.Proofs.YtihjpbalkjhjbaaW.PrintLast Go.Proofs.YtihjpbalkjhjbaaW.PrintMore Go.Proofs.Ytihjpbalkjhjbaa.PTableEnds
theorem drawn0_only {w w' : World} (h : Drawn0 w w') : ∃ n, w' = w.drewN n := h.out
/-- the marks, in a row of their own; all that was there is as it was -/
structure MarksIs (w wr : World) (ab k : Nat) (a : Nat → Nat) : Prop where
  row : wr.ownsRow w.heap.size 3 1 (.slice (some ⟨ab, 0, none⟩) k k) k (rowA k a)
  below : Below w.heap.size w wr
theorem MarksIs.cell {w wr : World} {ab k : Nat} {a : Nat → Nat} (h : MarksIs w wr ab k a) {n : Nat} (hn : n < k) : wr.cell? ⟨ab, n, none⟩ = some (.int .i64 ((a n : Nat) : Int)) ∧ wr.frozen? ⟨ab, n, none⟩ = false ∧ ab < wr.heap.size := by
  obtain ⟨g, he, h1, h2, _⟩ := own_at h.row (rowA_get hn)
  cases he
  exact ⟨h1, h2, (h.row.lt ab rfl).2⟩
theorem MarksIs.set {w wr : World} {ab k : Nat} {a : Nat → Nat} (h : MarksIs w wr ab k a) (n x : Nat) : MarksIs w (wr.setCell ⟨ab, n, none⟩ (.int .i64 ((x : Nat) : Int))) ab k fun i => if i = n then x else a i :=
  ⟨by rw [← rowA_set]; exact own_set h.row n _, below_set h.below (h.row.lt ab rfl).1 _ _⟩
theorem MarksIs.drewN {w wr : World} {ab k : Nat} {a : Nat → Nat} (h : MarksIs w wr ab k a) (n : Nat) : MarksIs w (wr.drewN n) ab k a := ⟨row_fresh h.row ((Only.refl _ _).drewN n), pw_below_drewN h.below n⟩
theorem MarksIs.congr {w wr : World} {ab k : Nat} {a a' : Nat → Nat} (h : MarksIs w wr ab k a) (e : ∀ i, a i = a' i) : MarksIs w wr ab k a' := by rw [show a' = a from funext fun i => (e i).symm]; exact h
theorem sees_loop (key : Int) (a0 a1 a2 a3 : Int) (a4 : ByteArray) (a5 : Bool) (a6 : ByteArray) (l : List Int) (l8 : List ByteArray) (hl : l.length ≤ 9223372036854775807) : ∀ (k i : Nat), i ≤ l.length → l.length < k + i → fuguelaw11_sees.l0 k key (i : Nat) a0 a1 a2 a3 a4 a5 a6 l l8 = some (decide (key ∈ l.drop i)) := by
  intro k
  induction k with
  | zero => intro i h1 h2; omega
  | succ k ih =>
    intro i h1 h2
    unfold fuguelaw11_sees.l0
    by_cases hi : i < l.length
    · have hw : wrap64 ((i : Int) + 1) = ((i + 1 : Nat) : Int) := by unfold wrap64; omega
      have hr : rd l (i : Int) = l[i]'hi := by
        show l.getD (i : Int).toNat 0 = _
        simp [hi]
      rw [if_pos (by omega), if_pos (by omega), hr, hw, List.drop_eq_getElem_cons hi]
      by_cases e : l[i]'hi = key
      · rw [if_pos e]
        simp [e]
      · rw [if_neg e, ih (i + 1) (by omega) (by omega)]
        congr 1
        rw [decide_eq_decide, List.mem_cons]
        exact ⟨.inr, fun q => q.resolve_left fun e2 => e e2.symm⟩
    · obtain rfl : i = l.length := by omega
      rw [if_neg (by omega)]
      simp
theorem sees_val (c : PCall) (key : Int) (hl : c.f3.f2.length ≤ 9223372036854775807) {k : Nat} (hk : c.f3.f2.length < k) : fuguelaw11_sees.f k c.f0 c.f1 c.f2.f0 c.f2.f1 c.f2.f2 c.f3.f0 c.f3.f1 c.f3.f2 c.f3.f3 key = some (seesB c key) := by
  unfold fuguelaw11_sees.f seesB
  by_cases h3 : c.f2.f0 = 3
  · rw [if_pos h3, if_pos h3]
    have := sees_loop key c.f0 c.f1 c.f2.f0 c.f2.f1 c.f2.f2 c.f3.f0 c.f3.f1 c.f3.f2 c.f3.f3 hl k 0 (Nat.zero_le _) (by omega)
    rw [List.drop_zero] at this
    exact this
  · rw [if_neg h3, if_neg h3]
    by_cases e : c.f2.f1 = key
    · rw [if_pos e, decide_eq_true e, Bool.true_and]
    · rw [if_neg e, decide_eq_false e, Bool.false_and]
theorem misses_val (c : PCall) (key : Int) (hl : c.f3.f2.length ≤ 9223372036854775807) {k : Nat} (hk : c.f3.f2.length < k) : fuguelaw11_misses.f k c.f0 c.f1 c.f2.f0 c.f2.f1 c.f2.f2 c.f3.f0 c.f3.f1 c.f3.f2 c.f3.f3 key = some (missesB c key) := by
  unfold fuguelaw11_misses.f missesB
  by_cases h3 : c.f2.f0 = 3
  · rw [if_pos h3, if_pos h3, sees_val c key hl hk]
    rfl
  · rw [if_neg h3, if_neg h3]
    by_cases e : c.f2.f1 = key
    · rw [if_pos e, decide_eq_true e, Bool.true_and]
      by_cases e2 : c.f2.f0 = 2
      · rw [if_pos e2, decide_eq_true e2, Bool.true_and]
      · rw [if_neg e2, decide_eq_false e2, Bool.false_and]
    · rw [if_neg e, decide_eq_false e, Bool.false_and]
theorem ahead_val (a b : PCall) (ha : a.f3.f2.length ≤ 9223372036854775807) (hb : b.f3.f2.length ≤ 9223372036854775807) : fuguelaw11_ahead.f (a.f3.f2.length + b.f3.f2.length + 2) a.f0 a.f1 a.f2.f0 a.f2.f1 a.f2.f2 a.f3.f0 a.f3.f1 a.f3.f2 a.f3.f3 b.f0 b.f1 b.f2.f0 b.f2.f1 b.f2.f2 b.f3.f0 b.f3.f1 b.f3.f2 b.f3.f3 = some (aheadB a b) := by
  have hj : ∀ x : Bool, fuguelaw11_ahead.j0 (a.f3.f2.length + b.f3.f2.length + 2) x a.f0 a.f1 a.f2.f0 a.f2.f1 a.f2.f2 a.f3.f0 a.f3.f1 a.f3.f2 a.f3.f3 b.f0 b.f1 b.f2.f0 b.f2.f1 b.f2.f2 b.f3.f0 b.f3.f1 b.f3.f2 b.f3.f3 = some ((x && seesB b a.f2.f1) || (madeB b && missesB a b.f2.f1)) := fun x => by
    obtain ⟨K, hK⟩ : ∃ K, K = a.f3.f2.length + b.f3.f2.length + 1 := ⟨_, rfl⟩
    rw [show a.f3.f2.length + b.f3.f2.length + 2 = K + 1 by omega]
    simp only [fuguelaw11_ahead.j0]
    rw [sees_val b a.f2.f1 hb (by omega), misses_val a b.f2.f1 ha (by omega)]
    simp only [Option.bind_some]
    unfold madeB
    cases x with
    | true =>
      rw [if_pos rfl, Bool.true_and]
      cases hs : seesB b a.f2.f1 with
      | true => rw [if_pos rfl, Bool.true_or]
      | false =>
        rw [if_neg (by simp), Bool.false_or]
        by_cases e : b.f2.f0 = 1
        · rw [if_pos e, decide_eq_true e, Bool.true_and]
          cases b.f3.f0
          · rw [if_neg (by simp), Bool.false_and]
          · rw [if_pos rfl, Bool.true_and]
        · rw [if_neg e, decide_eq_false e, Bool.false_and, Bool.false_and]
    | false =>
      rw [if_neg (by simp), Bool.false_and, Bool.false_or]
      by_cases e : b.f2.f0 = 1
      · rw [if_pos e, decide_eq_true e, Bool.true_and]
        cases b.f3.f0
        · rw [if_neg (by simp), Bool.false_and]
        · rw [if_pos rfl, Bool.true_and]
      · rw [if_neg e, decide_eq_false e, Bool.false_and, Bool.false_and]
  unfold fuguelaw11_ahead.f aheadB
  by_cases h1 : a.f1 < b.f0
  · rw [if_pos h1, decide_eq_true h1, Bool.true_or, Bool.true_or]
  · rw [if_neg h1, decide_eq_false h1, Bool.false_or]
    by_cases h2 : a.f2.f0 = 1
    · rw [if_pos h2, hj]
      have : madeB a = a.f3.f0 := by unfold madeB; rw [decide_eq_true h2, Bool.true_and]
      rw [this]
    · rw [if_neg h2, hj]
      have : madeB a = false := by unfold madeB; rw [decide_eq_false h2, Bool.false_and]
      rw [this]
abbrev callV (c : PCall) (A7 : Option Addr) (c7 : Nat) (A8 : Option Addr) (c8 : Nat) : Value :=
  .agg #[.int .i64 c.f0, .int .i64 c.f1, .int .i64 c.f2.f0, .int .i64 c.f2.f1, .string c.f2.f2, .bool c.f3.f0, .string c.f3.f1, .slice A7 c.f3.f2.length c7, .slice A8 c.f3.f3.length c8]
/-- a reply's lists, read -/
structure RepIn (w : World) (r : PRep) (A7 : Option Addr) (c7 : Nat) (A8 : Option Addr) (c8 : Nat) : Prop where
  l7 : r.f2.length ≤ c7
  g7 : (Kd.int .i64).C w A7 r.f2.length r.f2
  l8 : r.f3.length ≤ c8
  g8 : Kd.string.C w A8 r.f3.length r.f3
theorem RepIn.below {w w1 : World} {r : PRep} {A7 : Option Addr} {c7 : Nat} {A8 : Option Addr} {c8 : Nat} (h : RepIn w r A7 c7 A8 c8) (hb : Below w.heap.size w w1) : RepIn w1 r A7 c7 A8 c8 := ⟨h.l7, Kd.C_below h.g7 hb, h.l8, Kd.C_below h.g8 hb⟩
theorem ahead_calls (w : World) (a b : PCall) {A7 : Option Addr} {c7 : Nat} {A8 : Option Addr} {c8 : Nat} (ha : RepIn w a.f3 A7 c7 A8 c8) {B7 : Option Addr} {d7 : Nat} {B8 : Option Addr} {d8 : Nat} (hb : RepIn w b.f3 B7 d7 B8 d8) :
    Calls Try.prog 27 #[callV a A7 c7 A8 c8, callV b B7 d7 B8 d8] w fun e w' => e = .returned (.bool (aheadB a b)) ∧ Below w.heap.size w w' :=
  fuguelaw11_ahead.calls (a.f3.f2.length + b.f3.f2.length + 2) a.f0 a.f1 a.f2.f0 a.f2.f1 a.f2.f2 a.f3.f0 a.f3.f1 A7 c7 a.f3.f2 A8 c8 a.f3.f3 b.f0 b.f1 b.f2.f0 b.f2.f1 b.f2.f2 b.f3.f0 b.f3.f1 B7 d7 b.f3.f2 B8 d8 b.f3.f3 (aheadB a b) w ha.g7 ha.l7 ha.g8 ha.l8 hb.g7 hb.l7 hb.g8 hb.l8 (ahead_val a b ha.g7.2.1 hb.g7.2.1)
/-! #### EqReply -/
theorem eqints_same (l : List Int) (hl : l.length ≤ 9223372036854775807) : ∀ (k i : Nat), i ≤ l.length → l.length < k + i → fugueref00_EqInts.l0 k l l (i : Nat) = some true := by
  intro k
  induction k with
  | zero => intro i h1 h2; omega
  | succ k ih =>
    intro i h1 h2
    unfold fugueref00_EqInts.l0
    by_cases hi : i < l.length
    · have hw : wrap64 ((i : Int) + 1) = ((i + 1 : Nat) : Int) := by unfold wrap64; omega
      rw [if_pos (by omega), if_pos (by omega), if_pos (by omega), if_pos rfl, hw]
      exact ih (i + 1) (by omega) (by omega)
    · rw [if_neg (by omega)]
theorem eqstrs_same (l : List ByteArray) (hl : l.length ≤ 9223372036854775807) : ∀ (k i : Nat), i ≤ l.length → l.length < k + i → fugueref00_EqStrings.l0 k l l (i : Nat) = some true := by
  intro k
  induction k with
  | zero => intro i h1 h2; omega
  | succ k ih =>
    intro i h1 h2
    unfold fugueref00_EqStrings.l0
    by_cases hi : i < l.length
    · have hw : wrap64 ((i : Int) + 1) = ((i + 1 : Nat) : Int) := by unfold wrap64; omega
      rw [if_pos (by omega), if_pos (by omega), if_pos (by omega), if_pos rfl, hw]
      exact ih (i + 1) (by omega) (by omega)
    · rw [if_neg (by omega)]
abbrev repV (r : PRep) (A7 : Option Addr) (c7 : Nat) (A8 : Option Addr) (c8 : Nat) : Value := .agg #[.bool r.f0, .string r.f1, .slice A7 r.f2.length c7, .slice A8 r.f3.length c8]
theorem eqreply_calls (w : World) (r : PRep) {A7 : Option Addr} {c7 : Nat} {A8 : Option Addr} {c8 : Nat} (ha : RepIn w r A7 c7 A8 c8) {B7 : Option Addr} {d7 : Nat} {B8 : Option Addr} {d8 : Nat} (hb : RepIn w r B7 d7 B8 d8) :
    Calls Try.prog 29 #[repV r A7 c7 A8 c8, repV r B7 d7 B8 d8] w fun e w' => e = .returned (.bool true) ∧ Below w.heap.size w w' := by
  refine fugueref00_EqReply.calls (r.f2.length + r.f3.length + 1) r.f0 r.f1 A7 c7 r.f2 A8 c8 r.f3 r.f0 r.f1 B7 d7 r.f2 B8 d8 r.f3 true w ha.g7 ha.l7 ha.g8 ha.l8 hb.g7 hb.l7 hb.g8 hb.l8 ?_
  have e1 : fugueref00_EqInts.f (r.f2.length + r.f3.length + 1) r.f2 r.f2 = some true := by
    unfold fugueref00_EqInts.f
    rw [if_pos rfl]
    exact eqints_same r.f2 ha.g7.2.1 _ 0 (Nat.zero_le _) (by omega)
  have e2 : fugueref00_EqStrings.f (r.f2.length + r.f3.length + 1) r.f3 r.f3 = some true := by
    unfold fugueref00_EqStrings.f
    rw [if_pos rfl]
    exact eqstrs_same r.f3 ha.g8.2.1 _ 0 (Nat.zero_le _) (by omega)
  unfold fugueref00_EqReply.f
  rw [if_pos (beq_self_eq_true _), if_pos rfl, e1, Option.bind_some, if_pos rfl, e2]
  first | rfl | simp
/-! #### some -/
def someP (l0 : List (List POp)) (i : Nat) : List (List POp) := (l0.take i).map fun l => l.take (400 / l0.length + 1)
theorem C_take {w : World} {A : Option Addr} {l : List POp} (h : k23.C w A l.length l) (m : Nat) (hm : m ≤ l.length) : k23.C w A (l.take m).length (l.take m) := by
  have hl : (l.take m).length = m := by rw [List.length_take]; omega
  refine ⟨rfl, by have := h.2.1; omega, fun h0 => ?_⟩
  obtain ⟨ad, e, hc⟩ := h.2.2 (by omega)
  exact ⟨ad, e, fun j p hp => hc j p (by rw [List.getElem?_take] at hp; split at hp <;> first | exact hp | cases hp)⟩
/-- the rows so far: what they hold lies in memory that was there before -/
abbrev SomeRow (w wr : World) (v : Value) (xs : List (List POp)) : Prop := OwnRow ((Kd.slice 23 k23).K w) 41 1 wr w.heap.size v xs
theorem info_row11 : (Try.prog.info? 41).map (fun i => (i.zero, i.size, i.bytes)) = some (some (.slice none 0 0), 1, 24) := by kernel_rfl
set_option maxRecDepth 100000 in
set_option maxHeartbeats 2000000 in
theorem some_walk (w : World) (A : Option Addr) (c0 : Nat) (l0 : List (List POp)) (hr : Kd.C (Kd.slice 23 k23) w A l0.length l0) (hl : l0.length ≤ 16777216) :
    Calls Try.prog 26 #[.slice A l0.length c0] w fun e w' => ∃ v, e = .returned v ∧ SomeRow w w' v (someP l0 l0.length) ∧ Below w.heap.size w w' := by
  have HR := Lib.hid hr
  clear hr
  go_enter Try.func26, Try.ntmps26
  go_wp2_with fail
  go_loopw [3, 4] (fun s3 s4 wr => ∃ i : Nat, i ≤ l0.length ∧ s4 = .int .i64 i ∧ SomeRow w wr s3 (someP l0 i) ∧ Below w.heap.size w wr) (fun _ s4 _ => l0.length - (intOf s4).toNat)
  case atStart => exact ⟨0, Nat.zero_le _, rfl, OwnRow.none_ _ _ _ _ _, Below.refl _ _⟩
  case round =>
    obtain ⟨i, hi, rfl, hrow, hb⟩ := hrel
    obtain ⟨A3, c3, rfl, h3⟩ := hrow.slice_
    have hsl : (someP l0 i).length = i := by unfold someP; rw [List.length_map, List.length_take]; omega
    have HS := Lib.hid (And.intro hrow (And.intro hb (And.intro h3 hsl)))
    clear hrow hb h3 hsl
    by_cases hlt : i < l0.length
    · have hlD : decide ((i : Int) < (l0.length : Int)) = true := by simp; omega
      have hl0 : (0 : Int) < (l0.length : Int) := by omega
      have hlz : ((l0.length : Int) == 0) = false := beq_eq_false_iff_ne.2 (by omega)
      obtain ⟨ad, A0, d0, hA, x0, hl2, hC⟩ := at_L3 (w := wr) (Kd.C_below HR.out HS.out.2.1) i (by omega) (by omega)
      subst hA
      simp only [Int.toNat_natCast] at x0 hl2 hC
      obtain ⟨ops, hops⟩ : ∃ ops, ops = rd_L3 l0 (i : Nat) := ⟨_, rfl⟩
      rw [← hops] at x0 hl2 hC
      have hol : ops.length ≤ 9223372036854775807 := hC.2.1
      obtain ⟨q, hq⟩ : ∃ q : Nat, q = 400 / l0.length := ⟨_, rfl⟩
      have hq4 : q ≤ 400 := by rw [hq]; exact Nat.div_le_self _ _
      have hqI : (400 : Int) / (l0.length : Int) = (q : Int) := by rw [hq]; exact (Int.natCast_ediv 400 l0.length).symm
      have hstep : someP l0 (i + 1) = someP l0 i ++ [ops.take (q + 1)] := by
        unfold someP
        rw [List.take_succ_eq_append_getElem hlt, List.map_append, hq]
        congr 1
        have : ops = l0[i]'hlt := by rw [hops]; unfold rd_L3; simp [hlt]
        rw [this]
        rfl
      -- the row in the memory that was there before
      obtain ⟨ad', A0', d0', hA', y0, hl2', hC'⟩ := at_L3 (w := w) HR.out i (by omega) (by omega)
      simp only [Int.toNat_natCast] at y0 hl2' hC'
      rw [← hops] at y0 hl2' hC'
      have hsame : A0' = A0 ∧ d0' = d0 := by
        have h1 := (HS.out.2.1.cell (World.block_lt_of_cell? w _ y0)).trans y0
        injection hA' with hA'
        rw [← hA', x0] at h1
        injection h1 with h1
        injection h1 with e1 _ e3
        exact ⟨e1.symm, e3.symm⟩
      obtain ⟨rfl, rfl⟩ := hsame
      have hKr : ∀ n, n ≤ ops.length → (Kd.slice 23 k23).K w (ops.take n) [.slice A0' n d0'] := fun n hn => by
        have hln : (ops.take n).length = n := by rw [List.length_take]; omega
        exact ⟨A0', d0', by rw [hln], by omega, C_take hC' n hn⟩
      have HKR := Lib.hid hKr
      have HO : Hid (SomeRow w wr (.slice A3 (someP l0 i).length c3) (someP l0 i)) := Lib.hid HS.out.1
      have HC := Lib.hid hstep
      clear hops hstep hC hC' hl2' y0 hA' hq hKr
      have hcase : q + 1 < ops.length ∨ ¬ q + 1 < ops.length := by omega
      rcases hcase with hc | hc
      · have hcI : ((q : Int) + 1) < (ops.length : Int) := by omega
        have HKK := Lib.hid (HKR.out (q + 1) (by omega))
        go_wp2_with (refine OwnRow.append (w0 := w) w.heap.size rfl (.tmp 28) (.tmp 30) 34 41 _ 1 24 rfl Try.underlying34 info_row11 rfl (by decide) (by decide) _ (someP l0 i) (ops.take (q + 1)) _ rfl rfl HKK.out rfl (by intro u hu; simp at hu; subst hu; rfl) HO.out HS.out.2.1 (below_size HS.out.2.1) (by have := HS.out.2.2.2; omega) ?_; intro v1 w3 hO3 hB3 hg3 hat3; have HO3 := Lib.hid (And.intro hO3 hB3); clear hO3 hB3 hg3 hat3)
        go_roundw
        case rel => exact ⟨i + 1, by omega, by go_num, by rw [HC.out]; exact HO3.out.1, HO3.out.2⟩
        case measure => simp [intOf]; omega
      · have hcI : ¬ ((q : Int) + 1) < (ops.length : Int) := by omega
        have HKK : Hid ((Kd.slice 23 k23).K w (ops.take (q + 1)) [.slice A0' ops.length d0']) := Lib.hid (by
          rw [List.take_of_length_le (by omega)]
          have := HKR.out ops.length (Nat.le_refl _)
          rwa [List.take_length] at this)
        go_wp2_with (refine OwnRow.append (w0 := w) w.heap.size rfl (.tmp 28) (.tmp 30) 34 41 _ 1 24 rfl Try.underlying34 info_row11 rfl (by decide) (by decide) _ (someP l0 i) (ops.take (q + 1)) _ rfl rfl HKK.out rfl (by intro u hu; simp at hu; subst hu; rfl) HO.out HS.out.2.1 (below_size HS.out.2.1) (by have := HS.out.2.2.2; omega) ?_; intro v1 w3 hO3 hB3 hg3 hat3; have HO3 := Lib.hid (And.intro hO3 hB3); clear hO3 hB3 hg3 hat3)
        go_roundw
        case rel => exact ⟨i + 1, by omega, by go_num, by rw [HC.out]; exact HO3.out.1, HO3.out.2⟩
        case measure => simp [intOf]; omega
    · obtain rfl : i = l0.length := by omega
      have hlD : decide ((l0.length : Int) < (l0.length : Int)) = false := by simp
      go_wp2_with fail
      go_ret
      exact ⟨_, rfl, HS.out.1, HS.out.2.1⟩
end Go.Proofs.Ytihjpbalkjhjbaa
namespace Go.Proofs.Ytihjpbalkjhjbaa
section
variable {P : Program} {md : Region.Mode} {ops : Array Oper} {Q : Exit → Act → World → Prop}
theorem wpAnyH_step {S : World → Prop} {fuel : Nat} {listed : Array Bool} {a : Act} {w : World} {i : Nat} {o : Oper} (hr : Region.ready md ops listed = [i]) (ho : ops[i]? = some o) (hw : Region.wanted o (yielded ops a.tmps) = true)
    (h : ∀ K : Act → World → Prop, (∀ a' w', S w' → wpAnyH P md ops Q S fuel (listed.setIfInBounds i true) a' w' → K a' w') → o.wp P a w K Q) : wpAnyH P md ops Q S (fuel + 1) listed a w := by
  refine wpAnyH_all hr (by simp) fun j hj => ?_
  obtain rfl := List.mem_singleton.1 hj
  unfold wpOp
  rw [ho]
  dsimp only
  rw [if_pos hw]
  exact .inl (h _ fun _ _ q1 q2 => ⟨q1, q2⟩)
end
end Go.Proofs.Ytihjpbalkjhjbaa
namespace Go.Proofs.Ytihjpbalkjhjbaa
open Go.RowKit Go.MapKept Go.Proofs.YtihjpbalkjhjbaaW.PrintWords Go.Proofs.YtihjpbalkjhjbaaW.PrintLast Go.Proofs.YtihjpbalkjhjbaaW.PrintMore Go.Proofs.Ytihjpbalkjhjbaa.PTableEnds
theorem copyInts_loop (l : List Int) (hl : l.length ≤ 1099511627777) : ∀ (k i : Nat), i ≤ l.length → l.length < k + i → fugueref00_CopyInts.l0 k l (l.take i) i = some l := by
  intro k
  induction k with
  | zero => intro i h1 h2; omega
  | succ k ih =>
    intro i h1 h2
    unfold fugueref00_CopyInts.l0
    by_cases hi : i < l.length
    · have hw : wrap64 ((i : Int) + 1) = ((i + 1 : Nat) : Int) := by unfold wrap64; omega
      have ht : l.take i ++ [rd l (i : Int)] = l.take (i + 1) := by
        rw [List.take_add_one, List.getElem?_eq_getElem hi]
        show _ ++ [l.getD (i : Int).toNat 0] = _
        rw [Int.toNat_natCast, List.getD_eq_getElem?_getD, List.getElem?_eq_getElem hi]
        rfl
      rw [if_pos (by omega), if_pos (by omega), if_pos (by simp; omega), hw, ht]
      exact ih (i + 1) (by omega) (by omega)
    · obtain rfl : i = l.length := by omega
      rw [if_neg (by omega), List.take_length]
theorem copyInts_some (l : List Int) (hl : l.length ≤ 1099511627777) : fugueref00_CopyInts.f (l.length + 1) l = some l := copyInts_loop l hl (l.length + 1) 0 (Nat.zero_le _) (by omega)
theorem copyStrings_loop (l : List ByteArray) (hl : l.length ≤ 1099511627777) : ∀ (k i : Nat), i ≤ l.length → l.length < k + i → fugueref00_CopyStrings.l0 k l (l.take i) i = some l := by
  intro k
  induction k with
  | zero => intro i h1 h2; omega
  | succ k ih =>
    intro i h1 h2
    unfold fugueref00_CopyStrings.l0
    by_cases hi : i < l.length
    · have hw : wrap64 ((i : Int) + 1) = ((i + 1 : Nat) : Int) := by unfold wrap64; omega
      have ht : l.take i ++ [rdOf ByteArray.empty l (i : Int)] = l.take (i + 1) := by
        rw [List.take_add_one, List.getElem?_eq_getElem hi]
        show _ ++ [l.getD (i : Int).toNat ByteArray.empty] = _
        rw [Int.toNat_natCast, List.getD_eq_getElem?_getD, List.getElem?_eq_getElem hi]
        rfl
      rw [if_pos (by omega), if_pos (by omega), if_pos (by simp; omega), hw, ht]
      exact ih (i + 1) (by omega) (by omega)
    · obtain rfl : i = l.length := by omega
      rw [if_neg (by omega), List.take_length]
theorem copyStrings_some (l : List ByteArray) (hl : l.length ≤ 1099511627777) : fugueref00_CopyStrings.f (l.length + 1) l = some l := copyStrings_loop l hl (l.length + 1) 0 (Nat.zero_le _) (by omega)
theorem own_reads1 {α : Type} {enc : α → Value} {h1 : ∀ x, (enc x).oneCell' = true} {w : World} {base : Nat} {e : TypeId} {A : Option Addr} {c : Nat} {xs : List α} (h : w.ownsRow base e 1 (.slice A xs.length c) xs.length (xs.map enc)) : (Kd.scalar enc h1).C w A xs.length xs ∧ xs.length ≤ c := by
  have hO : OwnRow (fun x cs => cs = [enc x]) e 1 w base (.slice A xs.length c) xs := ⟨_, h, Kd.reps_scalar xs⟩
  obtain ⟨A', c', he, hc, hR⟩ := hO.reads
  injection he with e1 _ e2
  subst e1
  subst e2
  exact ⟨hR, hc⟩
theorem RTab.drew {W : World} {t base : Nat} {K : List Int} {V : List ByteArray} {vk vv : Value} (h : RTab W t base K V vk vv) (n : Nat) : RTab (W.drewN n) t base K V vk vv := ⟨h.blk, h.keys, h.vals, h.out, h.apart, h.len, h.small⟩
theorem RTab.below {W W1 : World} {t base : Nat} {K : List Int} {V : List ByteArray} {vk vv : Value} (h : RTab W t base K V vk vv) (hb : Below W.heap.size W W1) : RTab W1 t base K V vk vv :=
  ⟨blk_below h.blk hb, row_move h.keys fun g e => hb.block g (own_lt h.keys e), row_move h.vals fun g e => hb.block g (own_lt h.vals e), h.out, h.apart, h.len, h.small⟩
set_option maxRecDepth 100000 in
set_option maxHeartbeats 1000000 in
theorem rpub_old {w : World} {t base : Nat} {K : List Int} {V : List ByteArray} {vk vv : Value} (h : RTab w t base K V vk vv) (hr : Rising K) (key : Int) (val : ByteArray) (hno : ∀ lo, AtPlace K key lo → foundB K key lo = true) :
    Calls Try.prog 52 #[.pointer (some ⟨t, 0, none⟩), .int .i64 key, .string val] w fun e w' => e = .returned (.bool false) ∧ ∃ n, w' = w.drewN n := by
  have hat := rat_calls h hr key
  have H := Lib.hid (And.intro h hno)
  clear h hr hno
  go_enter Try.func52, Try.ntmps52
  go_wp2_with fail
  refine hat.mono ?_
  rintro e w1 ⟨lo, hlo, rfl, n, rfl⟩
  rw [H.out.2 lo hlo]
  clear hat hlo
  go_wp2_with fail
  go_ret
  exact ⟨rfl, _, rfl⟩
set_option maxRecDepth 100000 in
set_option maxHeartbeats 1000000 in
theorem rlook_none {w : World} {t base : Nat} {K : List Int} {V : List ByteArray} {vk vv : Value} (h : RTab w t base K V vk vv) (hr : Rising K) (key : Int) (hno : ∀ lo, AtPlace K key lo → foundB K key lo = false) :
    Calls Try.prog 53 #[.pointer (some ⟨t, 0, none⟩), .int .i64 key] w fun e w' => e = .returned (.tuple #[.string ⟨#[]⟩, .bool false]) ∧ ∃ n, w' = w.drewN n := by
  have hat := rat_calls h hr key
  have H := Lib.hid (And.intro h hno)
  clear h hr hno
  go_enter Try.func53, Try.ntmps53
  go_wp2_with fail
  refine hat.mono ?_
  rintro e w1 ⟨lo, hlo, rfl, n, rfl⟩
  rw [H.out.2 lo hlo]
  clear hat hlo
  go_wp2_with fail
  go_ret2
  exact ⟨rfl, _, rfl⟩
set_option maxRecDepth 100000 in
set_option maxHeartbeats 1000000 in
theorem rlook_some {w : World} {t base : Nat} {K : List Int} {V : List ByteArray} {vk vv : Value} (h : RTab w t base K V vk vv) (hr : Rising K) (key : Int) (hno : ∀ lo, AtPlace K key lo → foundB K key lo = true) :
    Calls Try.prog 53 #[.pointer (some ⟨t, 0, none⟩), .int .i64 key] w fun e w' => ∃ lo, AtPlace K key lo ∧ e = .returned (.tuple #[.string (V.getD lo ⟨#[]⟩), .bool true]) ∧ ∃ n, w' = w.drewN n := by
  have hat := rat_calls h hr key
  obtain ⟨A, c, rfl⟩ := own_slice h.keys
  obtain ⟨B, d, rfl⟩ := own_slice h.vals
  have c1 := blk_cell h.blk (i := 1) rfl
  have hlen := h.len
  have hsm := h.small
  have H := Lib.hid (And.intro h (And.intro hno (And.intro hlen hsm)))
  clear h hr hno hlen hsm
  have hu := Try.underlying61
  go_enter Try.func53, Try.ntmps53
  go_wp2_with fail
  refine hat.mono ?_
  rintro e w1 ⟨lo, hlo, rfl, n, rfl⟩
  have hf := H.out.2.1 lo hlo
  have hl : lo < K.length := by
    unfold foundB at hf
    rw [Bool.and_eq_true] at hf
    exact of_decide_eq_true hf.1
  rw [hf]
  obtain ⟨g, e1, x1, _, _⟩ := own_at H.out.1.vals (i := lo) (strsV_at (by rw [← H.out.2.2.1]; exact hl))
  subst e1
  obtain ⟨y, hy⟩ : ∃ y, y = V.getD lo ⟨#[]⟩ := ⟨_, rfl⟩
  rw [← hy] at x1
  have HY := Lib.hid hy
  clear hy
  have hlV : lo < V.length := by rw [← H.out.2.2.1]; exact hl
  have hlD : decide ((lo : Int) < (V.length : Int)) = true := by simp; omega
  have HLO := Lib.hid hlo
  clear hat hlo hf
  go_wp2_with fail
  go_ret2
  exact ⟨lo, HLO.out, by rw [← HY.out]; rfl, _, rfl⟩
/-- copies of a table's lists -/
structure Copies (w w' : World) (K : List Int) (V : List ByteArray) (v2 v3 : Value) : Prop where
  keys : w'.ownsRow w.heap.size 3 1 v2 K.length (intsV K)
  vals : w'.ownsRow w.heap.size 9 1 v3 V.length (strsV V)
  below : Below w.heap.size w w'
theorem rown_lower {w : World} {base base' n : Nat} {e : TypeId} {v : Value} {xs : List Value} (h : w.ownsRow base e 1 v n xs) (hb : base' ≤ base) : w.ownsRow base' e 1 v n xs := by
  refine ⟨h.1, ?_⟩
  rcases h.2 with hh | ⟨g, cap, cur, rfl, h1, rest⟩
  · exact .inl hh
  · exact .inr ⟨g, cap, cur, rfl, by omega, rest⟩
set_option maxRecDepth 100000 in
set_option maxHeartbeats 2000000 in
theorem rsnap {w : World} {t base : Nat} {K : List Int} {V : List ByteArray} {vk vv : Value} (h : RTab w t base K V vk vv) :
    Calls Try.prog 54 #[.pointer (some ⟨t, 0, none⟩)] w fun e w' => ∃ v2 v3, e = .returned (.tuple #[v2, v3]) ∧ Copies w w' K V v2 v3 := by
  obtain ⟨A, c, rfl⟩ := own_slice h.keys
  obtain ⟨B, d, rfl⟩ := own_slice h.vals
  obtain ⟨k1, k2⟩ := own_reads1 (h1 := fun _ => rfl) h.keys
  obtain ⟨k3, k4⟩ := own_reads1 (h1 := fun _ => rfl) h.vals
  have c0 := blk_cell h.blk (i := 0) rfl
  have c1 := blk_cell h.blk (i := 1) rfl
  have lt := blk_lt h.blk
  have hsm := h.small
  have hlen := h.len
  have hs1 := copyInts_some K (by omega)
  have hs2 := copyStrings_some V (by omega)
  have hi := fun (W : World) (hb : Below w.heap.size w W) => fugueref00_CopyInts.calls (K.length + 1) A c K K W (Kd.C_below k1 hb) k2 hs1
  have hv := fun (W : World) (hb : Below w.heap.size w W) => fugueref00_CopyStrings.calls (V.length + 1) B d V V W (Kd.C_below k3 hb) k4 hs2
  have H := Lib.hid (And.intro h (And.intro hi hv))
  clear h k1 k2 k3 k4 hsm hlen hs1 hs2 hi hv
  have hu := Try.underlying61
  go_enter Try.func54, Try.ntmps54
  go_wp2_with fail
  refine wp_region_held (S := fun w' => w'.cell? ⟨t, 0, none⟩ = some (.slice A K.length c) ∧ w'.cell? ⟨t, 1, none⟩ = some (.slice B V.length d) ∧ Below w.heap.size w w') (by kernel_rfl) ?_
  refine wpAnyH_take (i := 0) (v := .pointer (some ⟨t, 0, none⟩)) rfl (by kernel_rfl) (by kernel_rfl) (by kernel_rfl) (fun _ _ _ h => h) (Or.inl ⟨by rfl, fun w' hw' => by obtain ⟨s1, s2, _⟩ := hw'; go_simp⟩) ⟨c0, c1, below_drew1 (Below.refl _ _)⟩ ?_
  refine wpAnyH_take (i := 1) (v := .pointer (some ⟨t, 0, none⟩)) rfl (by kernel_rfl) (by kernel_rfl) (by kernel_rfl) (fun _ _ _ h => h) (Or.inl ⟨by rfl, fun w' hw' => by obtain ⟨s1, s2, _⟩ := hw'; go_simp⟩) ⟨c0, c1, below_drew1 (Below.refl _ _)⟩ ?_
  refine wpAnyH_take (i := 2) (v := .pointer (some ⟨t, 0, none⟩)) rfl (by kernel_rfl) (by kernel_rfl) (by kernel_rfl) (fun _ _ _ h => h) (Or.inl ⟨by rfl, fun w' hw' => by obtain ⟨s1, s2, _⟩ := hw'; go_simp⟩) ⟨c0, c1, below_drew1 (Below.refl _ _)⟩ ?_
  refine wpAnyH_take (i := 3) (v := .slice A K.length c) rfl (by kernel_rfl) (by kernel_rfl) (by kernel_rfl) (fun _ _ _ h => h) (Or.inl ⟨by rfl, fun w' hw' => by obtain ⟨s1, s2, _⟩ := hw'; go_simp⟩) ⟨c0, c1, below_drew1 (Below.refl _ _)⟩ ?_
  refine wpAnyH_take (i := 5) (v := .pointer (some ⟨t, 0, none⟩)) rfl (by kernel_rfl) (by kernel_rfl) (by kernel_rfl) (fun _ _ _ h => h) (Or.inl ⟨by rfl, fun w' hw' => by obtain ⟨s1, s2, _⟩ := hw'; go_simp⟩) ⟨c0, c1, below_drew1 (Below.refl _ _)⟩ ?_
  refine wpAnyH_take (i := 6) (v := .pointer (some ⟨t, 0, none⟩)) rfl (by kernel_rfl) (by kernel_rfl) (by kernel_rfl) (fun _ _ _ h => h) (Or.inl ⟨by rfl, fun w' hw' => by obtain ⟨s1, s2, _⟩ := hw'; go_simp⟩) ⟨c0, c1, below_drew1 (Below.refl _ _)⟩ ?_
  refine wpAnyH_take (i := 7) (v := .pointer (some ⟨t, 1, none⟩)) rfl (by kernel_rfl) (by kernel_rfl) (by kernel_rfl) (fun _ _ _ h => h) (Or.inl ⟨by rfl, fun w' hw' => by obtain ⟨s1, s2, _⟩ := hw'; go_simp⟩) ⟨c0, c1, below_drew1 (Below.refl _ _)⟩ ?_
  refine wpAnyH_take (i := 8) (v := .slice B V.length d) rfl (by kernel_rfl) (by kernel_rfl) (by kernel_rfl) (fun _ _ _ h => h) (Or.inl ⟨by rfl, fun w' hw' => by obtain ⟨s1, s2, _⟩ := hw'; go_simp⟩) ⟨c0, c1, below_drew1 (Below.refl _ _)⟩ ?_
  refine wpAnyH_step (i := 4) (by kernel_rfl) rfl (by rfl) ?_
  intro Kq hK
  go_simp
  refine (H.out.2.1 _ (below_drew1 (Below.refl _ _))).mono ?_
  rintro e w5 ⟨v2, rfl, hr5, hb5⟩
  have hb6 : Below w.heap.size w w5 := below_step (below_drew1 (Below.refl _ _)) hb5
  have c0' := (hb6.cell (World.block_lt_of_cell? w _ c0)).trans c0
  have c1' := (hb6.cell (World.block_lt_of_cell? w _ c1)).trans c1
  have H5 := Lib.hid (And.intro hr5 hb6)
  clear hr5 hb5
  refine hK _ _ ⟨c0', c1', hb6⟩ ?_
  clear hK Kq
  refine wpAnyH_step (i := 9) (by kernel_rfl) rfl (by rfl) ?_
  intro Kq hK
  go_simp
  refine (H.out.2.2 _ H5.out.2).mono ?_
  rintro e w7 ⟨v3, rfl, hr7, hb7⟩
  have hb8 : Below w.heap.size w w7 := below_step H5.out.2 hb7
  have c2' := (hb8.cell (World.block_lt_of_cell? w _ c0)).trans c0
  have c3' := (hb8.cell (World.block_lt_of_cell? w _ c1)).trans c1
  have H7 := Lib.hid (And.intro hr7 (And.intro hb8 hb7))
  clear hr7 hb7
  refine hK _ _ ⟨c2', c3', hb8⟩ ?_
  clear hK Kq
  refine wpAnyH_take (i := 10) (v := v2) rfl (by kernel_rfl) (by kernel_rfl) (by kernel_rfl) (fun _ _ _ h => h) (Or.inl ⟨by rfl, fun w' hw' => by go_simp⟩) ⟨c2', c3', hb8⟩ ?_
  refine wpAnyH_take (i := 11) (v := v3) rfl (by kernel_rfl) (by kernel_rfl) (by kernel_rfl) (fun _ _ _ h => h) (Or.inl ⟨by rfl, fun w' hw' => by go_simp⟩) ⟨c2', c3', hb8⟩ ?_
  refine wpAnyH_done (by kernel_rfl) ?_ _
  go_wp2_with fail
  go_ret2
  have k2 : w5.ownsRow w.heap.size 3 1 v2 K.length (intsV K) := Kd.own_of_R H5.out.1
  have k3 : w7.ownsRow w5.heap.size 9 1 v3 V.length (strsV V) := Kd.own_of_R H7.out.1
  exact ⟨v2, v3, rfl, row_move k2 fun g e => H7.out.2.2.block g (own_lt k2 e), rown_lower k3 H5.out.2.size, H7.out.2.1⟩
theorem place_one {K : List Int} {key : Int} {a b : Nat} (h : AtPlace K key a) (k : AtPlace K key b) : a = b := by
  rcases Nat.lt_trichotomy a b with q | q | q
  · have h1 := k.low a q
    have h2 := h.high a (Nat.le_refl _) (by have := k.le; omega)
    omega
  · exact q
  · have h1 := h.low b q
    have h2 := k.high b (Nat.le_refl _) (by have := h.le; omega)
    omega
theorem place_ex {K : List Int} (hr : Rising K) (key : Int) : ∃ lo, AtPlace K key lo := by
  have : ∀ n, n ≤ K.length → (∀ j, n ≤ j → j < K.length → key ≤ K.getD j 0) → ∃ lo, AtPlace K key lo := by
    intro n
    induction n with
    | zero => intro h1 h2; exact ⟨0, h1, fun j q => by omega, h2⟩
    | succ n ih =>
      intro h1 h2
      by_cases q : K.getD n 0 < key
      · refine ⟨n + 1, h1, fun j hj => ?_, h2⟩
        rcases Nat.lt_or_ge j n with k | k
        · have := hr j n k (by omega); omega
        · obtain rfl : j = n := by omega
          exact q
      · exact ih (by omega) fun j a b => by
          rcases Nat.eq_or_lt_of_le a with k | k
          · subst k; omega
          · exact h2 j k b
  exact this K.length (Nat.le_refl _) fun j a b => by omega
theorem rising_holed {K : List Int} {key : Int} {lo : Nat} (hr : Rising K) (h : AtPlace K key lo) (hf : foundB K key lo = false) : Rising (holed K lo key) := by
  have hat : ∀ i, i ≤ K.length → (holed K lo key).getD i 0 = if i < lo then K.getD i 0 else if i = lo then key else K.getD (i - 1) 0 := fun i hi => by
    unfold holed
    simp only [List.getD_eq_getElem?_getD]
    have hle := h.le
    by_cases q : i < lo
    · rw [if_pos q, List.getElem?_append_left (by simp; omega), List.getElem?_take, if_pos q]
    · rw [if_neg q, List.getElem?_append_right (by simp; omega), List.length_take, Nat.min_eq_left hle]
      by_cases q2 : i = lo
      · rw [if_pos q2, q2, Nat.sub_self]
        rfl
      · rw [if_neg q2, show i - lo = (i - 1 - lo) + 1 by omega, List.getElem?_cons_succ, List.getElem?_drop, show lo + (i - 1 - lo) = i - 1 by omega]
  have hhi : ∀ j, lo ≤ j → j < K.length → key < K.getD j 0 := fun j a b => by
    have h1 := h.high j a b
    rcases Nat.eq_or_lt_of_le a with q | q
    · subst q
      unfold foundB at hf
      rw [decide_eq_true b, Bool.true_and] at hf
      have := of_decide_eq_false hf
      omega
    · have h2 := h.high lo (Nat.le_refl _) (by omega)
      have h3 := hr lo j q b
      omega
  intro i j hij hj
  have hle := h.le
  rw [holed_len hle] at hj
  rw [hat i (by omega), hat j (by omega)]
  by_cases a : i < lo
  · rw [if_pos a]
    have hi := h.low i a
    by_cases b : j < lo
    · rw [if_pos b]; exact hr i j hij (by omega)
    · rw [if_neg b]
      by_cases c : j = lo
      · rw [if_pos c]; exact hi
      · rw [if_neg c]
        have := hhi (j - 1) (by omega) (by omega)
        omega
  · rw [if_neg a, if_neg (show ¬ j < lo by omega), if_neg (show ¬ j = lo by omega)]
    by_cases b : i = lo
    · rw [if_pos b]; exact hhi (j - 1) (by omega) (by omega)
    · rw [if_neg b]; exact hr (i - 1) (j - 1) (by omega) (by omega)
/-- what a call of the plain map does -/
def DoIs (K : List Int) (V : List ByteArray) (o : S23) (K' : List Int) (V' : List ByteArray) (r : S50) : Prop :=
  if o.f0 = 1 then ∃ lo, AtPlace K o.f1 lo ∧ if foundB K o.f1 lo = true then K' = K ∧ V' = V ∧ r = z50 else K' = holed K lo o.f1 ∧ V' = holed V lo o.f2 ∧ r = ⟨true, ⟨#[]⟩, [], []⟩
  else if o.f0 = 2 then ∃ lo, AtPlace K o.f1 lo ∧ K' = K ∧ V' = V ∧ r = if foundB K o.f1 lo = true then ⟨true, V.getD lo ⟨#[]⟩, [], []⟩ else z50
  else K' = K ∧ V' = V ∧ r = ⟨true, ⟨#[]⟩, K, V⟩
def DoneBy (w : World) (t base : Nat) (K : List Int) (V : List ByteArray) (vk vv : Value) (o : S23) (e : Ending) (w' : World) : Prop :=
  ∃ K' V' vk' vv' r A2 c2 A3 c3, DoIs K V o K' V' r ∧ e = .returned (.agg #[.bool r.f0, .string r.f1, .slice A2 r.f2.length c2, .slice A3 r.f3.length c3]) ∧ r.f2.length ≤ c2 ∧ (Kd.int .i64).C w' A2 r.f2.length r.f2 ∧
    r.f3.length ≤ c3 ∧ Kd.string.C w' A3 r.f3.length r.f3 ∧ RTab w' t base K' V' vk' vv' ∧ Rising K' ∧ Only w w' (TabS t vk vv) ∧ ∀ b, TabS t vk' vv' b → TabS t vk vv b ∨ w.heap.size ≤ b
theorem set4 {w : World} {q : Nat} {x y z u : Value} {t : TypeId} (hb : w.heap[q]? = some (.cells #[x, y, z, u] t (0, 0))) (a b c d : Value) :
    ((((w.setCell ⟨q, 0, none⟩ a).setCell ⟨q, 1, none⟩ b).setCell ⟨q, 2, none⟩ c).setCell ⟨q, 3, none⟩ d).heap[q]? = some (.cells #[a, b, c, d] t (0, 0)) := by
  have h1 := blk_set hb 0 a
  have h2 := blk_set h1 1 b
  have h3 := blk_set h2 2 c
  exact blk_set h3 3 d
theorem RTab.only {W W1 : World} {t base : Nat} {K : List Int} {V : List ByteArray} {vk vv : Value} (h : RTab W t base K V vk vv) {S : Nat → Prop} (ho : Only W W1 S) (hs : ∀ b, S b → ¬ TabS t vk vv b) : RTab W1 t base K V vk vv :=
  ⟨(ho.block t (blk_lt h.blk) fun q => hs t q (.inl rfl)).trans h.blk, row_move h.keys fun g e => ho.block g (own_lt h.keys e) fun q => hs g q (.inr (.inl e)), row_move h.vals fun g e => ho.block g (own_lt h.vals e) fun q => hs g q (.inr (.inr e)), h.out, h.apart, h.len, h.small⟩
theorem RTab.lt {W : World} {t base : Nat} {K : List Int} {V : List ByteArray} {vk vv : Value} (h : RTab W t base K V vk vv) {b : Nat} (hb : TabS t vk vv b) : b < W.heap.size := by
  rcases hb with rfl | hb | hb
  · exact blk_lt h.blk
  · exact own_lt h.keys hb
  · exact own_lt h.vals hb
theorem RRaw.tab {W : World} {t base : Nat} {K : List Int} {V : List ByteArray} {vk vv : Value} (h : RRaw W t base K V vk vv) (hl : K.length = V.length) (hs : K.length ≤ 1099511627776) : RTab W t base K V vk vv := ⟨h.blk, h.keys, h.vals, h.out, h.apart, hl, hs⟩
/-- behind the four stores of a reply -/
def stored4 (w : World) (q : Nat) (a b c d : Value) : World := (((w.setCell ⟨q, 0, none⟩ a).setCell ⟨q, 1, none⟩ b).setCell ⟨q, 2, none⟩ c).setCell ⟨q, 3, none⟩ d
theorem stored4_only (w : World) (q : Nat) (a b c d : Value) : Only w (stored4 w q a b c d) (fun x => x = q) :=
  ((((Only.refl w fun x => x = q).setCell (p := ⟨q, 0, none⟩) (.inl rfl) a).setCell (p := ⟨q, 1, none⟩) (.inl rfl) b).setCell (p := ⟨q, 2, none⟩) (.inl rfl) c).setCell (p := ⟨q, 3, none⟩) (.inl rfl) d
theorem done_mk {w w1 : World} {t base q : Nat} {K : List Int} {V : List ByteArray} {vk vv : Value} {o : S23} {K' : List Int} {V' : List ByteArray} {vk' vv' : Value} {r : S50} {A2 : Option Addr} {c2 : Nat} {A3 : Option Addr} {c3 : Nat} (a b c d : Value)
    (hd : DoIs K V o K' V' r) (l2 : r.f2.length ≤ c2) (g2 : (Kd.int .i64).C (stored4 w1 q a b c d) A2 r.f2.length r.f2) (l3 : r.f3.length ≤ c3) (g3 : Kd.string.C (stored4 w1 q a b c d) A3 r.f3.length r.f3)
    (ht : RTab w1 t base K' V' vk' vv') (hr : Rising K') (ho : Only w w1 (TabS t vk vv)) (hq : w.heap.size ≤ q) (hqt : ¬ TabS t vk' vv' q) (hnw : ∀ b, TabS t vk' vv' b → TabS t vk vv b ∨ w.heap.size ≤ b) :
    DoneBy w t base K V vk vv o (.returned (.agg #[.bool r.f0, .string r.f1, .slice A2 r.f2.length c2, .slice A3 r.f3.length c3])) (stored4 w1 q a b c d) :=
  ⟨K', V', vk', vv', r, A2, c2, A3, c3, hd, rfl, l2, g2, l3, g3, ht.only (stored4_only w1 q a b c d) (fun b e => by subst e; exact hqt), hr, ho.trans (stored4_only w1 q a b c d) fun b e => .inr (by subst e; exact hq), hnw⟩
def PubIs (K : List Int) (V : List ByteArray) (key : Int) (val : ByteArray) (lo : Nat) (K' : List Int) (V' : List ByteArray) : Prop :=
  AtPlace K key lo ∧ if foundB K key lo = true then K' = K ∧ V' = V else K' = holed K lo key ∧ V' = holed V lo val
theorem rpub_any {w : World} {t base : Nat} {K : List Int} {V : List ByteArray} {vk vv : Value} (h : RTab w t base K V vk vv) (hr : Rising K) (hsm : K.length < 1099511627776) (hbs : base ≤ w.heap.size) (key : Int) (val : ByteArray) :
    Calls Try.prog 52 #[.pointer (some ⟨t, 0, none⟩), .int .i64 key, .string val] w fun e w' => ∃ K' V' vk' vv' lo, PubIs K V key val lo K' V' ∧ e = .returned (.bool (!foundB K key lo)) ∧ RTab w' t base K' V' vk' vv' ∧ Rising K' ∧ Only w w' (TabS t vk vv) ∧
      ∀ b, TabS t vk' vv' b → TabS t vk vv b ∨ w.heap.size ≤ b := by
  obtain ⟨lo, hlo⟩ := place_ex hr key
  have hno : ∀ l, AtPlace K key l → foundB K key l = foundB K key lo := fun l hl => by rw [place_one hl hlo]
  cases hf : foundB K key lo with
  | true =>
    refine (rpub_old h hr key val fun l hl => (hno l hl).trans hf).mono fun e w' ⟨he, n, hw⟩ => ?_
    subst hw
    exact ⟨K, V, vk, vv, lo, ⟨hlo, by rw [if_pos hf]; exact ⟨rfl, rfl⟩⟩, by rw [he, hf]; rfl, h.drew n, hr, (Only.refl _ _).drewN n, fun b q => .inl q⟩
  | false =>
    refine (rpub_new h hr hsm hbs key val fun l hl => (hno l hl).trans hf).mono fun e w' ⟨l, vk', vv', hl, he, hR, ho, hn⟩ => ?_
    obtain rfl := place_one hl hlo
    have hle := hl.le
    exact ⟨_, _, vk', vv', l, ⟨hl, by rw [if_neg (by rw [hf]; simp)]; exact ⟨rfl, rfl⟩⟩, by rw [he, hf]; rfl, hR.tab (by rw [holed_len hle, holed_len (by rw [← h.len]; exact hle), h.len]) (by rw [holed_len hle]; omega), rising_holed hr hl hf, ho, hn⟩
set_option maxRecDepth 100000 in
set_option maxHeartbeats 2000000 in
theorem rdo_pub {w : World} {t base : Nat} {K : List Int} {V : List ByteArray} {vk vv : Value} (h : RTab w t base K V vk vv) (hr : Rising K) (hsm : K.length < 1099511627776) (hbs : base ≤ w.heap.size) (o : S23) (ho : o.f0 = 1) :
    Calls Try.prog 28 #[.pointer (some ⟨t, 0, none⟩), .agg #[.int .i64 o.f0, .int .i64 o.f1, .string o.f2]] w fun e w' => DoneBy w t base K V vk vv o e w' := by
  have hu := Try.underlying23
  have hu2 := Try.underlying50
  have h2 : RTab ((w.alloc (.cells #[.int .i64 1, .int .i64 o.f1, .string o.f2] 23)).alloc (.cells #[.bool false, .string ⟨#[]⟩, .slice none 0 0, .slice none 0 0] 50)) t base K V vk vv := (h.below (below_alloc (Below.refl _ _) _)).below (below_alloc (Below.refl _ _) _)
  have hbl : Below w.heap.size w ((w.alloc (.cells #[.int .i64 1, .int .i64 o.f1, .string o.f2] 23)).alloc (.cells #[.bool false, .string ⟨#[]⟩, .slice none 0 0, .slice none 0 0] 50)) := below_alloc (below_alloc (Below.refl _ _) _) _
  have hq := blk_new (w.alloc (.cells #[.int .i64 1, .int .i64 o.f1, .string o.f2] 23)) (.cells #[.bool false, .string ⟨#[]⟩, .slice none 0 0, .slice none 0 0] 50)
  simp only [World.size_alloc] at hq
  have hc := rpub_any h2 hr hsm (by simp; omega) o.f1 o.f2
  have H := Lib.hid (And.intro h (And.intro hbl (And.intro hq ho)))
  rw [ho]
  clear h hr hbs h2 hbl hq hsm ho
  go_enter Try.func28, Try.ntmps28
  go_wp2_with fail
  refine hc.mono ?_
  rintro e w1 ⟨K', V', vk', vv', lo, hp, rfl, ht, hr', hO, hnew⟩
  have hq1 := hO.blk H.out.2.2.1 (fun q => by have := H.out.1.lt q; omega)
  have y0 := blk_cell hq1 (i := 0) rfl
  have y1 := blk_cell hq1 (i := 1) rfl
  have y2 := blk_cell hq1 (i := 2) rfl
  have y3 := blk_cell hq1 (i := 3) rfl
  have fz := blk_frozen hq1
  have HP := Lib.hid (And.intro hp (And.intro ht (And.intro hr' (And.intro hO (And.intro hnew hq1)))))
  clear hp ht hr' hO hnew hq1 hc
  obtain ⟨b, hb⟩ : ∃ b, b = !foundB K o.f1 lo := ⟨_, rfl⟩
  rw [← hb]
  have HB := Lib.hid hb
  clear hb
  go_wp2_with fail
  have hres := set4 HP.out.2.2.2.2.2 (.bool b) (.string ⟨#[]⟩) (.slice none 0 0) (.slice none 0 0)
  refine bodyPost_ret (results_cell_row rfl _ _ (w.heap.size + 1) 50 #[.bool b, .string ⟨#[]⟩, .slice none 0 0, .slice none 0 0] (0, 0) _ rfl hres Try.underlying50 rfl (by kernel_rfl)) rfl ?_
  have hfin := done_mk (w := w) (w1 := w1) (t := t) (base := base) (q := w.heap.size + 1) (K := K) (V := V) (vk := vk) (vv := vv) (o := o) (r := ⟨b, ⟨#[]⟩, [], []⟩) (A2 := none) (c2 := 0) (A3 := none) (c3 := 0) (.bool b) (.string ⟨#[]⟩) (.slice none 0 0) (.slice none 0 0)
    (K' := K') (V' := V') (by
      unfold DoIs
      rw [if_pos H.out.2.2.2]
      refine ⟨lo, HP.out.1.1, ?_⟩
      have := HP.out.1.2
      split
      · rename_i hf
        rw [if_pos hf] at this
        exact ⟨this.1, this.2, by rw [HB.out, hf]; rfl⟩
      · rename_i hf
        rw [if_neg hf] at this
        exact ⟨this.1, this.2, by rw [HB.out, Bool.not_eq_true _ |>.mp hf]; rfl⟩)
    (Nat.le_refl _) (Kd.C_nil _ _) (Nat.le_refl _) (Kd.C_nil _ _) HP.out.2.1 HP.out.2.2.1 ((Only.of_below (S := TabS t vk vv) H.out.2.1 fun b h1 h2 => by omega).trans' HP.out.2.2.2.1) (by omega) (fun q => by
      rcases HP.out.2.2.2.2.1 _ q with k | k
      · have := H.out.1.lt k; omega
      · simp at k; omega) (fun q hq => by
      rcases HP.out.2.2.2.2.1 _ hq with k | k
      · exact .inl k
      · simp at k; exact .inr (by omega))
  exact hfin
theorem rlook_any {w : World} {t base : Nat} {K : List Int} {V : List ByteArray} {vk vv : Value} (h : RTab w t base K V vk vv) (hr : Rising K) (key : Int) :
    Calls Try.prog 53 #[.pointer (some ⟨t, 0, none⟩), .int .i64 key] w fun e w' => ∃ (lo : Nat) (v : ByteArray), AtPlace K key lo ∧ v = (if foundB K key lo = true then V.getD lo ⟨#[]⟩ else ⟨#[]⟩) ∧ e = .returned (.tuple #[.string v, .bool (foundB K key lo)]) ∧ ∃ n, w' = w.drewN n := by
  obtain ⟨lo, hlo⟩ := place_ex hr key
  have hno : ∀ l, AtPlace K key l → foundB K key l = foundB K key lo := fun l hl => by rw [place_one hl hlo]
  cases hf : foundB K key lo with
  | true =>
    refine (rlook_some h hr key fun l hl => (hno l hl).trans hf).mono fun e w' ⟨l, hl, he, hw⟩ => ?_
    obtain rfl := place_one hl hlo
    exact ⟨l, _, hl, by rw [if_pos hf], by rw [he, hf], hw⟩
  | false =>
    refine (rlook_none h hr key fun l hl => (hno l hl).trans hf).mono fun e w' ⟨he, hw⟩ => ?_
    exact ⟨lo, _, hlo, by rw [if_neg (by rw [hf]; simp)], by rw [he, hf], hw⟩
theorem DoneBy.of {w w1 : World} {t base q : Nat} {K : List Int} {V : List ByteArray} {vk vv : Value} {o : S23} {r : S50} {A2 : Option Addr} {c2 : Nat} {A3 : Option Addr} {c3 : Nat} (a b c d : Value) (hd : DoIs K V o K V r) (h : RTab w t base K V vk vv) (hr : Rising K) (hb : Below w.heap.size w w1) (hq : w.heap.size ≤ q)
    (l2 : r.f2.length ≤ c2) (g2 : (Kd.int .i64).C (stored4 w1 q a b c d) A2 r.f2.length r.f2) (l3 : r.f3.length ≤ c3) (g3 : Kd.string.C (stored4 w1 q a b c d) A3 r.f3.length r.f3) :
    DoneBy w t base K V vk vv o (.returned (.agg #[.bool r.f0, .string r.f1, .slice A2 r.f2.length c2, .slice A3 r.f3.length c3])) (stored4 w1 q a b c d) :=
  done_mk a b c d hd l2 g2 l3 g3 (h.below hb) hr (Only.of_below (S := TabS t vk vv) hb fun b h1 h2 => by omega) hq (fun k => by have := h.lt k; omega) fun b q => .inl q
set_option maxRecDepth 100000 in
set_option maxHeartbeats 2000000 in
theorem rdo_look {w : World} {t base : Nat} {K : List Int} {V : List ByteArray} {vk vv : Value} (h : RTab w t base K V vk vv) (hr : Rising K) (o : S23) (ho : o.f0 = 2) :
    Calls Try.prog 28 #[.pointer (some ⟨t, 0, none⟩), .agg #[.int .i64 o.f0, .int .i64 o.f1, .string o.f2]] w fun e w' => DoneBy w t base K V vk vv o e w' := by
  have hu := Try.underlying23
  have hu2 := Try.underlying50
  have h2 : RTab ((w.alloc (.cells #[.int .i64 2, .int .i64 o.f1, .string o.f2] 23)).alloc (.cells #[.bool false, .string ⟨#[]⟩, .slice none 0 0, .slice none 0 0] 50)) t base K V vk vv := (h.below (below_alloc (Below.refl _ _) _)).below (below_alloc (Below.refl _ _) _)
  have hbl : Below w.heap.size w ((w.alloc (.cells #[.int .i64 2, .int .i64 o.f1, .string o.f2] 23)).alloc (.cells #[.bool false, .string ⟨#[]⟩, .slice none 0 0, .slice none 0 0] 50)) := below_alloc (below_alloc (Below.refl _ _) _) _
  have hq := blk_new (w.alloc (.cells #[.int .i64 2, .int .i64 o.f1, .string o.f2] 23)) (.cells #[.bool false, .string ⟨#[]⟩, .slice none 0 0, .slice none 0 0] 50)
  simp only [World.size_alloc] at hq
  have hc := rlook_any h2 hr o.f1
  have H := Lib.hid (And.intro h (And.intro hbl (And.intro hq (And.intro ho hr))))
  rw [ho]
  clear h hr h2 hbl hq ho
  go_enter Try.func28, Try.ntmps28
  go_wp2_with fail
  refine hc.mono ?_
  rintro e w1 ⟨lo, v, hlo, hv, rfl, hn⟩
  have hb1 : Below w.heap.size w w1 := by obtain ⟨n, rfl⟩ := hn; exact pw_below_drewN H.out.2.1 _
  have hq1 : w1.heap[w.heap.size + 1]? = some (.cells #[.bool false, .string ⟨#[]⟩, .slice none 0 0, .slice none 0 0] 50 (0, 0)) := by obtain ⟨n, rfl⟩ := hn; exact H.out.2.2.1
  have y0 := blk_cell hq1 (i := 0) rfl
  have y1 := blk_cell hq1 (i := 1) rfl
  have y2 := blk_cell hq1 (i := 2) rfl
  have y3 := blk_cell hq1 (i := 3) rfl
  have fz := blk_frozen hq1
  obtain ⟨b, hb⟩ : ∃ b, b = foundB K o.f1 lo := ⟨_, rfl⟩
  rw [← hb] at hv ⊢
  have HP := Lib.hid (And.intro hlo (And.intro hv (And.intro hb1 (And.intro hq1 hb))))
  clear hlo hv hb1 hq1 hb hc hn
  go_wp2_with fail
  have hres := set4 HP.out.2.2.2.1 (.bool b) (.string v) (.slice none 0 0) (.slice none 0 0)
  refine bodyPost_ret (results_cell_row rfl _ _ (w.heap.size + 1) 50 #[.bool b, .string v, .slice none 0 0, .slice none 0 0] (0, 0) _ rfl hres Try.underlying50 rfl (by kernel_rfl)) rfl ?_
  have hfin := DoneBy.of (w := w) (w1 := w1) (q := w.heap.size + 1) (o := o) (r := ⟨b, v, [], []⟩) (A2 := none) (c2 := 0) (A3 := none) (c3 := 0) (.bool b) (.string v) (.slice none 0 0) (.slice none 0 0) (K := K) (V := V)
    (by
      unfold DoIs
      rw [if_neg (by rw [H.out.2.2.2.1]; omega), if_pos H.out.2.2.2.1]
      refine ⟨lo, HP.out.1, rfl, rfl, ?_⟩
      rw [← HP.out.2.2.2.2, HP.out.2.1]
      cases b
      · rfl
      · rfl) H.out.1 H.out.2.2.2.2 HP.out.2.2.1 (by omega) (Nat.le_refl _) (Kd.C_nil _ _) (Nat.le_refl _) (Kd.C_nil _ _)
  exact hfin
set_option maxRecDepth 100000 in
set_option maxHeartbeats 2000000 in
theorem rdo_snap {w : World} {t base : Nat} {K : List Int} {V : List ByteArray} {vk vv : Value} (h : RTab w t base K V vk vv) (hr : Rising K) (o : S23) (h1 : o.f0 ≠ 1) (hk2 : o.f0 ≠ 2) :
    Calls Try.prog 28 #[.pointer (some ⟨t, 0, none⟩), .agg #[.int .i64 o.f0, .int .i64 o.f1, .string o.f2]] w fun e w' => DoneBy w t base K V vk vv o e w' := by
  have hu := Try.underlying23
  have hu2 := Try.underlying50
  have h2 : RTab ((w.alloc (.cells #[.int .i64 o.f0, .int .i64 o.f1, .string o.f2] 23)).alloc (.cells #[.bool false, .string ⟨#[]⟩, .slice none 0 0, .slice none 0 0] 50)) t base K V vk vv := (h.below (below_alloc (Below.refl _ _) _)).below (below_alloc (Below.refl _ _) _)
  have hbl : Below w.heap.size w ((w.alloc (.cells #[.int .i64 o.f0, .int .i64 o.f1, .string o.f2] 23)).alloc (.cells #[.bool false, .string ⟨#[]⟩, .slice none 0 0, .slice none 0 0] 50)) := below_alloc (below_alloc (Below.refl _ _) _) _
  have hq := blk_new (w.alloc (.cells #[.int .i64 o.f0, .int .i64 o.f1, .string o.f2] 23)) (.cells #[.bool false, .string ⟨#[]⟩, .slice none 0 0, .slice none 0 0] 50)
  simp only [World.size_alloc] at hq
  have hc := rsnap h2
  have e1 : (o.f0 == 1) = false := beq_eq_false_iff_ne.mpr h1
  have e2 : (o.f0 == 2) = false := beq_eq_false_iff_ne.mpr hk2
  have H := Lib.hid (And.intro h (And.intro hbl (And.intro hq (And.intro h1 (And.intro hk2 hr)))))
  clear h hr h2 hbl hq h1 hk2
  go_enter Try.func28, Try.ntmps28
  go_wp2_with fail
  refine hc.mono ?_
  rintro e w1 ⟨v2, v3, rfl, hcp⟩
  obtain ⟨k2, k3, hb⟩ := hcp
  obtain ⟨A2, c2, rfl⟩ := own_slice k2
  obtain ⟨A3, c3, rfl⟩ := own_slice k3
  have hb1 : Below w.heap.size w w1 := below_step H.out.2.1 hb
  have hq1 := blk_below H.out.2.2.1 hb
  have y0 := blk_cell hq1 (i := 0) rfl
  have y1 := blk_cell hq1 (i := 1) rfl
  have y2 := blk_cell hq1 (i := 2) rfl
  have y3 := blk_cell hq1 (i := 3) rfl
  have fz := blk_frozen hq1
  have HP := Lib.hid (And.intro k2 (And.intro k3 (And.intro hb1 hq1)))
  clear k2 k3 hb1 hq1 hc hb
  go_wp2_with fail
  have hres := set4 HP.out.2.2.2 (.bool true) (.string ⟨#[]⟩) (.slice A2 K.length c2) (.slice A3 V.length c3)
  refine bodyPost_ret (results_cell_row rfl _ _ (w.heap.size + 1) 50 #[.bool true, .string ⟨#[]⟩, .slice A2 K.length c2, .slice A3 V.length c3] (0, 0) _ rfl hres Try.underlying50 rfl (by kernel_rfl)) rfl ?_
  have hr2 := own_reads1 (h1 := fun _ => rfl) (row_move (W1 := stored4 w1 (w.heap.size + 1) (.bool true) (.string ⟨#[]⟩) (.slice A2 K.length c2) (.slice A3 V.length c3)) HP.out.1 fun g e => (stored4_only w1 _ _ _ _ _).block g (own_lt HP.out.1 e) (fun q => by have := (HP.out.1.lt g e).1; simp at this; omega))
  have hr3 := own_reads1 (h1 := fun _ => rfl) (row_move (W1 := stored4 w1 (w.heap.size + 1) (.bool true) (.string ⟨#[]⟩) (.slice A2 K.length c2) (.slice A3 V.length c3)) HP.out.2.1 fun g e => (stored4_only w1 _ _ _ _ _).block g (own_lt HP.out.2.1 e) (fun q => by have := (HP.out.2.1.lt g e).1; simp at this; omega))
  have hfin := DoneBy.of (w := w) (w1 := w1) (q := w.heap.size + 1) (o := o) (r := ⟨true, ⟨#[]⟩, K, V⟩) (A2 := A2) (c2 := c2) (A3 := A3) (c3 := c3) (.bool true) (.string ⟨#[]⟩) (.slice A2 K.length c2) (.slice A3 V.length c3) (K := K) (V := V)
    (by
      unfold DoIs
      rw [if_neg H.out.2.2.2.1, if_neg H.out.2.2.2.2.1]
      exact ⟨rfl, rfl, rfl⟩) H.out.1 H.out.2.2.2.2.2 HP.out.2.2.1 (by omega) hr2.2 hr2.1 hr3.2 hr3.1
  exact hfin
theorem rdo {w : World} {t base : Nat} {K : List Int} {V : List ByteArray} {vk vv : Value} (h : RTab w t base K V vk vv) (hr : Rising K) (hsm : K.length < 1099511627776) (hbs : base ≤ w.heap.size) (o : S23) :
    Calls Try.prog 28 #[.pointer (some ⟨t, 0, none⟩), .agg #[.int .i64 o.f0, .int .i64 o.f1, .string o.f2]] w fun e w' => DoneBy w t base K V vk vv o e w' := by
  by_cases h1 : o.f0 = 1
  · exact rdo_pub h hr hsm hbs o h1
  · by_cases h2 : o.f0 = 2
    · exact rdo_look h hr o h2
    · exact rdo_snap h hr o h1 h2
end Go.Proofs.Ytihjpbalkjhjbaa
namespace Go.Proofs.Ytihjpbalkjhjbaa
open Go.RowKit Go.MapKept Go.MuLone Go.Shelf Go.Proofs.YtihjpbalkjhjbaaW.PrintWords Go.Proofs.YtihjpbalkjhjbaaW.PrintLast Go.Proofs.YtihjpbalkjhjbaaW.PrintMore Go.Proofs.Ytihjpbalkjhjbaa.PTableEnds
abbrev keysL (L : List (Int × ByteArray)) : List Int := L.map (·.1)
abbrev valsL (L : List (Int × ByteArray)) : List ByteArray := L.map (·.2)
theorem rising_of {L : List (Int × ByteArray)} (h : (L.map (·.1)).Pairwise (· < ·)) : Rising (keysL L) := fun i j hij hj => by
  have hj' : j < (L.map (·.1)).length := hj
  have hi' : i < (L.map (·.1)).length := by omega
  have h1 := List.pairwise_iff_getElem.1 h i j hi' hj' hij
  rw [List.getD_eq_getElem?_getD, List.getD_eq_getElem?_getD, List.getElem?_eq_getElem hi', List.getElem?_eq_getElem hj']
  exact h1
theorem place_look (key : Int) (s : ByteArray) : ∀ (L : List (Int × ByteArray)) (lo : Nat), (L.map (·.1)).Pairwise (· < ·) → AtPlace (keysL L) key lo →
    (foundB (keysL L) key lo = true → lookL L key = some ((valsL L).getD lo ⟨#[]⟩)) ∧ (foundB (keysL L) key lo = false → lookL L key = none ∧ putL key s L = L.take lo ++ (key, s) :: L.drop lo)
  | [], lo, _, h => by
    have h0 : lo = 0 := by have := h.le; simpa using this
    subst h0
    exact ⟨fun q => by simp [foundB] at q, fun _ => ⟨rfl, rfl⟩⟩
  | x :: L, lo, hr, h => by
    have hr' := hr
    simp only [List.map_cons, List.pairwise_cons] at hr'
    match lo, h with
    | 0, h =>
      have hk : key ≤ x.1 := by
        have := h.high 0 (Nat.le_refl _) (by simp)
        simpa using this
      refine ⟨fun q => ?_, fun q => ?_⟩
      · have e : x.1 = key := by simpa [foundB] using q
        unfold lookL
        rw [List.find?_cons, show (x.1 == key) = true by simp [e]]
        rfl
      · have e : x.1 ≠ key := by simpa [foundB] using q
        have hlt : key < x.1 := by omega
        refine ⟨?_, ?_⟩
        · cases hl : lookL (x :: L) key with
          | none => rfl
          | some v =>
            have hm := (lookL_iff (x :: L) key).2 (by rw [hl]; simp)
            rcases List.mem_cons.1 hm with q2 | q2
            · exact absurd q2.symm e
            · have := hr'.1 key q2
              omega
        · unfold putL
          rw [if_pos hlt]
          rfl
    | m + 1, h =>
      have hx : x.1 < key := by
        have := h.low 0 (by omega)
        simpa using this
      have h' : AtPlace (keysL L) key m := by
        refine ⟨by have := h.le; simpa using this, fun j hj => ?_, fun j h1 h2 => ?_⟩
        · have := h.low (j + 1) (by omega)
          simpa using this
        · have := h.high (j + 1) (by omega) (by simpa using h2)
          simpa using this
      have hf : foundB (keysL (x :: L)) key (m + 1) = foundB (keysL L) key m := by
        unfold foundB
        simp
      have hl : lookL (x :: L) key = lookL L key := by
        unfold lookL
        rw [List.find?_cons, show (x.1 == key) = false by simp; omega]
      obtain ⟨k1, k2⟩ := place_look key s L m hr'.2 h'
      rw [hf, hl]
      refine ⟨fun q => ?_, fun q => ⟨(k2 q).1, ?_⟩⟩
      · rw [k1 q]
        simp
      · unfold putL
        rw [if_neg (by omega), (k2 q).2]
        rfl
theorem do_pairs {L : List (Int × ByteArray)} {o : POp} {K' : List Int} {V' : List ByteArray} {r : PRep} (hr : (L.map (·.1)).Pairwise (· < ·)) (hok : OpOk o) (h : DoIs (keysL L) (valsL L) o K' V' r) : K' = keysL (tabOf L o) ∧ V' = valsL (tabOf L o) ∧ r = repOf L o := by
  unfold DoIs at h
  unfold tabOf repOf
  rcases hok with q | q | q
  · rw [if_pos q] at h
    obtain ⟨lo, hlo, h⟩ := h
    obtain ⟨k1, k2⟩ := place_look o.f1 o.f2 L lo hr hlo
    rw [if_pos q]
    by_cases hf : foundB (keysL L) o.f1 lo = true
    · rw [if_pos hf] at h
      obtain ⟨rfl, rfl, rfl⟩ := h
      rw [if_neg (by rw [k1 hf]; simp), k1 hf]
      exact ⟨rfl, rfl, rfl⟩
    · have hf' : foundB (keysL L) o.f1 lo = false := by simpa using hf
      rw [if_neg hf] at h
      obtain ⟨rfl, rfl, rfl⟩ := h
      obtain ⟨k3, k4⟩ := k2 hf'
      rw [if_pos ⟨q, by rw [k3]; rfl⟩, k4, k3]
      refine ⟨?_, ?_, rfl⟩
      · unfold holed keysL
        rw [List.map_append, List.map_cons, List.map_take, List.map_drop]
      · unfold holed valsL
        rw [List.map_append, List.map_cons, List.map_take, List.map_drop]
  · rw [if_neg (by omega), if_pos q] at h
    obtain ⟨lo, hlo, rfl, rfl, rfl⟩ := h
    obtain ⟨k1, k2⟩ := place_look o.f1 o.f2 L lo hr hlo
    rw [if_neg (show ¬ (o.f0 = 1 ∧ (lookL L o.f1).isNone = true) from fun e => by have := e.1; omega)]
    refine ⟨rfl, rfl, ?_⟩
    rw [if_neg (show ¬ o.f0 = 1 by omega), if_pos q]
    by_cases hf : foundB (keysL L) o.f1 lo = true
    · rw [if_pos hf, k1 hf]
      rfl
    · have hf' : foundB (keysL L) o.f1 lo = false := by simpa using hf
      rw [if_neg hf, (k2 hf').1]
      rfl
  · rw [if_neg (by omega), if_neg (by omega)] at h
    obtain ⟨rfl, rfl, rfl⟩ := h
    rw [if_neg (show ¬ (o.f0 = 1 ∧ (lookL L o.f1).isNone = true) from fun e => by have := e.1; omega), if_neg (show ¬ o.f0 = 1 by omega), if_neg (show ¬ o.f0 = 2 by omega)]
    exact ⟨rfl, rfl, rfl⟩
/-- what Do leaves, over a list of pairs -/
def DoPost (w w' : World) (t base : Nat) (L : List (Int × ByteArray)) (vk vv : Value) (o : POp) (e : Ending) : Prop :=
  ∃ vk' vv' A2 c2 A3 c3, e = .returned (repV (repOf L o) A2 c2 A3 c3) ∧ RepIn w' (repOf L o) A2 c2 A3 c3 ∧ RTab w' t base (keysL (tabOf L o)) (valsL (tabOf L o)) vk' vv' ∧ Only w w' (TabS t vk vv)
theorem do_walk {w : World} {t base : Nat} {L : List (Int × ByteArray)} {vk vv : Value} (h : RTab w t base (keysL L) (valsL L) vk vv) (hr : (L.map (·.1)).Pairwise (· < ·)) (hsm : L.length < 1099511627776) (hbs : base ≤ w.heap.size) (o : POp) (hok : OpOk o) :
    Calls Try.prog 28 #[.pointer (some ⟨t, 0, none⟩), .agg #[.int .i64 o.f0, .int .i64 o.f1, .string o.f2]] w fun e w' => DoPost w w' t base L vk vv o e := by
  refine (rdo h (rising_of hr) (by simpa using hsm) hbs o).mono fun e w' ⟨K', V', vk', vv', r, A2, c2, A3, c3, hd, he, l2, g2, l3, g3, ht, _, ho, _⟩ => ?_
  obtain ⟨rfl, rfl, rfl⟩ := do_pairs hr hok hd
  exact ⟨vk', vv', A2, c2, A3, c3, he, ⟨l2, g2, l3, g3⟩, ht, ho⟩
/-! #### the waits -/
def wv (cs : List PCall) (D : Nat → Bool) (i : Nat) : Int := if D i = true then -1 else (waitN cs D i cs.length : Nat)
def rowI (k : Nat) (a : Nat → Int) : List Value := (List.range k).map fun n => .int .i64 (a n)
theorem rowI_get {k n : Nat} {a : Nat → Int} (h : n < k) : (rowI k a)[n]? = some (.int .i64 (a n)) := by simp [rowI, h]
theorem rowI_set {k n : Nat} {a : Nat → Int} (x : Int) : (rowI k a).set n (.int .i64 x) = rowI k fun i => if i = n then x else a i := by
  refine List.ext_getElem? fun i => ?_
  rw [List.getElem?_set]
  unfold rowI
  by_cases hi : i < k
  · by_cases e : n = i
    · subst e; simp [hi]
    · rw [if_neg e]; simp [hi, Ne.symm e]
  · rw [List.getElem?_eq_none (l := (List.range k).map _) (i := i) (by simp; omega)]
    by_cases e : n = i
    · subst e; simp [hi]
    · rw [if_neg e, List.getElem?_eq_none (by simp; omega)]
theorem rowI_snoc (k : Nat) (a : Nat → Int) : rowI (k + 1) a = rowI k a ++ [.int .i64 (a k)] := by
  unfold rowI
  rw [List.range_succ, List.map_append]
  rfl
theorem rowI_congr {k : Nat} {a b : Nat → Int} (h : ∀ i, i < k → a i = b i) : rowI k a = rowI k b := by
  unfold rowI
  exact List.map_congr_left fun i hi => by rw [h i (List.mem_range.1 hi)]
/-- in the course of taking call p -/
def wm (cs : List PCall) (D : Nat → Bool) (p i k : Nat) : Int := if k < i then wv cs (fun q => if q = p then true else D q) k else if k = p then -1 else wv cs D k
def countD (D : Nat → Bool) (n : Nat) : Nat := ((List.range n).filter D).length
theorem countD_take {D : Nat → Bool} {p : Nat} (hD : D p = false) : ∀ n, countD (fun q => if q = p then true else D q) n = countD D n + if p < n then 1 else 0
  | 0 => rfl
  | n + 1 => by
    have ih := countD_take hD n
    have hs : ∀ E : Nat → Bool, countD E (n + 1) = countD E n + if E n = true then 1 else 0 := fun E => by
      unfold countD
      rw [List.range_succ, List.filter_append, List.length_append]
      congr 1
      by_cases q : E n = true
      · simp [q]
      · simp [q]
    rw [hs, hs, ih]
    by_cases e : n = p
    · subst e
      rw [hD]
      simp
    · simp only [if_neg e]
      by_cases q : p < n
      · have : p < n + 1 := by omega
        simp only [q, this, if_true]
        omega
      · have : ¬ p < n + 1 := by omega
        simp only [q, this, if_false, Nat.add_zero]
theorem countD_free {D : Nat → Bool} {n : Nat} (h : countD D n < n) : ∃ j, j < n ∧ D j = false := by
  apply Classical.byContradiction
  intro hno
  have hall : ∀ j ∈ List.range n, D j = true := fun j hj => by
    cases q : D j with
    | true => rfl
    | false => exact absurd ⟨j, List.mem_range.1 hj, q⟩ hno
  unfold countD at h
  rw [List.filter_eq_self.2 hall, List.length_range] at h
  omega
theorem wm_end {cs : List PCall} {D : Nat → Bool} {p : Nat} : ∀ k, k < cs.length → wm cs D p cs.length k = wv cs (fun q => if q = p then true else D q) k := fun k hk => by unfold wm; rw [if_pos hk]
theorem wm_start {cs : List PCall} {D : Nat → Bool} {p : Nat} : ∀ k, wm cs D p 0 k = if k = p then -1 else wv cs D k := fun k => by unfold wm; rw [if_neg (by omega)]
/-- a wait that is turned, or not -/
theorem wm_step {cs : List PCall} {D : Nat → Bool} {p i : Nat} (hp : p < cs.length) (hD : D p = false) :
    (¬ 0 < wm cs D p i i → wm cs D p (i + 1) i = wm cs D p i i) ∧ (0 < wm cs D p i i → wm cs D p (i + 1) i = if aheadB (ca cs p) (ca cs i) = true then wm cs D p i i - 1 else wm cs D p i i) := by
  have h1 : wm cs D p (i + 1) i = wv cs (fun q => if q = p then true else D q) i := by unfold wm; rw [if_pos (by omega)]
  have h2 : wm cs D p i i = if i = p then -1 else wv cs D i := by unfold wm; rw [if_neg (by omega)]
  rw [h1, h2]
  by_cases e : i = p
  · rw [if_pos e]
    have : wv cs (fun q => if q = p then true else D q) i = -1 := by unfold wv; simp [e]
    rw [this]
    exact ⟨fun _ => rfl, fun q => by omega⟩
  · rw [if_neg e]
    unfold wv
    simp only [if_neg e]
    by_cases hDi : D i = true
    · rw [if_pos hDi, if_pos hDi]
      exact ⟨fun _ => rfl, fun q => by omega⟩
    · rw [if_neg hDi, if_neg hDi]
      have ht := waitN_take (cs := cs) (i := i) (Ne.symm e) hD cs.length
      by_cases ha : aheadB (ca cs p) (ca cs i) = true
      · rw [if_pos ⟨hp, ha⟩] at ht
        rw [if_pos ha]
        exact ⟨fun q => by omega, fun q => by omega⟩
      · rw [if_neg (fun q => ha q.2)] at ht
        rw [if_neg ha]
        exact ⟨fun q => by omega, fun q => by omega⟩
theorem wm_other {cs : List PCall} {D : Nat → Bool} {p i k : Nat} (h : k ≠ i) : wm cs D p (i + 1) k = wm cs D p i k := by
  unfold wm
  by_cases q : k < i
  · rw [if_pos q, if_pos (by omega)]
  · rw [if_neg q, if_neg (by omega)]
/-! #### the play's calls -/
theorem good_nil (nx : Nat → Nat) : Good [] nx := ⟨(fun i hi => by simp at hi), (fun i hi => by simp at hi), (fun i hi => by simp at hi), (fun i hi => by simp at hi), (fun i hi => by simp at hi)⟩
theorem play_orders {l0 : List (List POp)} {scr : List Int} {H : List PMo} (hM : 11 * (l0.map List.length).sum ≤ 16777216) (h : PlayEnd l0 scr H) : H.length ≤ 16777216 ∧ ∃ nx tm N T, Good H nx ∧ endC H H.length = (callL H nx H.length).length ∧ CallsOk (callL H nx H.length) tm N T := by
  by_cases hl : 64 < l0.length
  · have h0 : H = [] := by unfold PlayEnd at h; rw [if_pos hl] at h; exact h
    subst h0
    refine ⟨by simp, fun _ => 0, fun _ => 0, 0, fun _ => [], good_nil _, rfl, ⟨fun j hj => by simp [callL] at hj, fun i j hi => by simp [callL] at hi, fun e he => by omega, rfl, fun j hj => by simp [callL] at hj, fun j hj => by simp [callL] at hj, fun i j hi => by simp [callL] at hi, fun j hj => by simp [callL] at hj⟩⟩
  · obtain ⟨ho, hlen⟩ := play_over h hl
    obtain ⟨nx, ef, N, T, ht⟩ := play_timed h hl
    obtain ⟨tm, hc⟩ := ht.calls
    refine ⟨by have := mu_init l0; omega, nx, tm, N, T, ht.good, ?_, hc⟩
    have h1 := endC_ce (H := H) (i := H.length) (Nat.le_refl _)
    have h2 := callL_len H nx H.length
    have h3 := cbce H
    have h4 := ho.bal
    rw [List.take_length] at h1
    omega
theorem someP_sum (l0 : List (List POp)) : ((someP l0 l0.length).map List.length).sum ≤ (l0.map List.length).sum := by
  have : ∀ (m : Nat) (l : List (List POp)), ((l.map fun x => x.take m).map List.length).sum ≤ (l.map List.length).sum := fun m l => by
    induction l with
    | nil => exact Nat.le_refl _
    | cons a l ih =>
      simp only [List.map_cons, List.sum_cons, List.length_take]
      omega
  unfold someP
  rw [List.take_length]
  exact this _ l0
/-- a row of numbers; all that was there is as it was -/
structure WaitIs (w wr : World) (v : Value) (k : Nat) (a : Nat → Int) : Prop where
  row : wr.ownsRow w.heap.size 3 1 v k (rowI k a)
  below : Below w.heap.size w wr
/-- an element of the calls, read in a later world -/
theorem call_at {w wr : World} {A : Option Addr} {cs : List PCall} (h : k57.C w A cs.length cs) (hb : Below w.heap.size w wr) {i : Nat} (hi : i < cs.length) :
    ∃ ad A7 c7 A8 c8, A = some ad ∧ (wr.cell? (ad.add (i * 9)) = some (.int .i64 (ca cs i).f0) ∧ wr.cell? ⟨(ad.add (i * 9)).block, (ad.add (i * 9)).off + 1, none⟩ = some (.int .i64 (ca cs i).f1) ∧
      wr.cell? ⟨(ad.add (i * 9)).block, (ad.add (i * 9)).off + 2, none⟩ = some (.int .i64 (ca cs i).f2.f0) ∧ wr.cell? ⟨(ad.add (i * 9)).block, (ad.add (i * 9)).off + 3, none⟩ = some (.int .i64 (ca cs i).f2.f1) ∧ wr.cell? ⟨(ad.add (i * 9)).block, (ad.add (i * 9)).off + 4, none⟩ = some (.string (ca cs i).f2.f2) ∧
      wr.cell? ⟨(ad.add (i * 9)).block, (ad.add (i * 9)).off + 5, none⟩ = some (.bool (ca cs i).f3.f0) ∧ wr.cell? ⟨(ad.add (i * 9)).block, (ad.add (i * 9)).off + 6, none⟩ = some (.string (ca cs i).f3.f1) ∧
      wr.cell? ⟨(ad.add (i * 9)).block, (ad.add (i * 9)).off + 7, none⟩ = some (.slice A7 (ca cs i).f3.f2.length c7) ∧ wr.cell? ⟨(ad.add (i * 9)).block, (ad.add (i * 9)).off + 8, none⟩ = some (.slice A8 (ca cs i).f3.f3.length c8)) ∧ RepIn wr (ca cs i).f3 A7 c7 A8 c8 := by
  obtain ⟨ad, A7, c7, A8, c8, hA, x0, x1, x2, x3, x4, x5, x6, x7, x8, l7, g7, l8, g8⟩ := at_T57 (w := wr) (Kd.C_below h hb) i (by omega) (by omega)
  simp only [Int.toNat_natCast] at x0 x1 x2 x3 x4 x5 x6 x7 x8
  exact ⟨ad, A7, c7, A8, c8, hA, ⟨x0, x1, x2, x3, x4, x5, x6, x7, x8⟩, l7, g7, l8, g8⟩
theorem row_bel {w w1 : World} {base n : Nat} {e : TypeId} {v : Value} {xs : List Value} (h : w.ownsRow base e 1 v n xs) (hb : Below w.heap.size w w1) : w1.ownsRow base e 1 v n xs := row_move h fun g hg => hb.block g (h.lt g hg).2
theorem WaitIs.snoc {w wo wr w' : World} {A8 : Option Addr} {C8 i wk : Nat} {a : Nat → Int} (h : WaitIs w wo (.slice A8 i C8) i a) (hb : Below wo.heap.size wo wr) (hw : a i = (wk : Int)) {A4 : Option Addr} {C4 : Nat} {o : Obj} (hown : w'.ownsRow w.heap.size 3 1 (.slice A4 (i + 1) C4) (i + 1) (rowI i a ++ [.int .i64 wk])) (hg : (wr.alloc o).grownBy w' (Value.slice A8 i C8).ownBlock) : WaitIs w w' (.slice A4 (i + 1) C4) (i + 1) a := by
  refine ⟨by rw [rowI_snoc, hw]; exact hown, ?_⟩
  have h1 : Only w wr fun b => w.heap.size ≤ b := Only.of_below (below_step h.below hb) fun b q _ => q
  have h2 := (h1.alloc o).grown hg fun b q => .inl (h.row.lt b q).1
  exact h2.below (Nat.le_refl _) fun b q => q
/-- the waits, and the plain map beside them -/
structure TwoIs (w4 wr : World) (vw : Value) (pb k : Nat) (a : Nat → Int) (L : List (Int × ByteArray)) : Prop where
  row : wr.ownsRow w4.heap.size 3 1 vw k (rowI k a)
  tab : ∃ vk vv, RTab wr pb (pb + 1) (keysL L) (valsL L) vk vv
  below : Below w4.heap.size w4 wr
  pbl : w4.heap.size ≤ pb
  far : ∀ g, vw.ownBlock = some g → g < pb
section
variable {w4 wr w1 : World} {vw : Value} {pb k : Nat} {a : Nat → Int} {L L' : List (Int × ByteArray)}
theorem TwoIs.later (h : TwoIs w4 wr vw pb k a L) (hb : Below wr.heap.size wr w1) : TwoIs w4 w1 vw pb k a L := by
  obtain ⟨vk, vv, ht⟩ := h.tab
  exact ⟨row_bel h.row hb, ⟨vk, vv, ht.below hb⟩, below_step h.below hb, h.pbl, h.far⟩
theorem TwoIs.congr {a' : Nat → Int} (h : TwoIs w4 wr vw pb k a L) (e : ∀ i, i < k → a i = a' i) : TwoIs w4 wr vw pb k a' L := ⟨by rw [← rowI_congr e]; exact h.row, h.tab, h.below, h.pbl, h.far⟩
theorem TwoIs.set {g c : Nat} (h : TwoIs w4 wr (.slice (some ⟨g, 0, none⟩) k c) pb k a L) (i : Nat) (x : Int) : TwoIs w4 (wr.setCell ⟨g, i, none⟩ (.int .i64 x)) (.slice (some ⟨g, 0, none⟩) k c) pb k (fun j => if j = i then x else a j) L := by
  obtain ⟨vk, vv, ht⟩ := h.tab
  have hg := h.far g rfl
  have ho : Only wr (wr.setCell ⟨g, i, none⟩ (.int .i64 x)) fun b => b = g := (Only.refl _ fun b => b = g).setCell (p := ⟨g, i, none⟩) (.inl rfl) _
  refine ⟨by rw [← rowI_set]; exact own_set h.row i _, ⟨vk, vv, ht.only ho fun b q q2 => ?_⟩, below_set h.below (h.row.lt g rfl).1 _ _, h.pbl, h.far⟩
  subst q
  rcases q2 with q2 | q2 | q2
  · omega
  · have := (ht.keys.lt b q2).1; omega
  · have := (ht.vals.lt b q2).1; omega
theorem TwoIs.did (h : TwoIs w4 wr vw pb k a L) {vk vv vk' vv' : Value} (ht : RTab wr pb (pb + 1) (keysL L) (valsL L) vk vv) (ho : Only wr w1 (TabS pb vk vv)) (ht' : RTab w1 pb (pb + 1) (keysL L') (valsL L') vk' vv') : TwoIs w4 w1 vw pb k a L' := by
  have hS : ∀ b, TabS pb vk vv b → pb ≤ b := fun b q => by
    rcases q with q | q | q
    · omega
    · have := (ht.keys.lt b q).1; omega
    · have := (ht.vals.lt b q).1; omega
  refine ⟨row_move h.row fun g hg => ho.block g (h.row.lt g hg).2 fun q => ?_, ⟨vk', vv', ht'⟩, ?_, h.pbl, h.far⟩
  · have := hS g q
    have := h.far g hg
    omega
  · have h1 : Only w4 wr fun b => w4.heap.size ≤ b := Only.of_below h.below fun b q _ => q
    exact (h1.trans ho fun b q => .inl (by have := hS b q; have := h.pbl; omega)).below (Nat.le_refl _) fun b q => q
theorem TwoIs.cell (h : TwoIs w4 wr vw pb k a L) {i : Nat} (hi : i < k) : ∃ g c, vw = .slice (some ⟨g, 0, none⟩) k c ∧ wr.cell? ⟨g, i, none⟩ = some (.int .i64 (a i)) ∧ wr.frozen? ⟨g, i, none⟩ = false ∧ g < wr.heap.size := by
  obtain ⟨g, c, he, h1, h2, _⟩ := own_cell h.row (rowI_get (a := a) hi)
  exact ⟨g, c, he, h1, h2, World.block_lt_of_cell? _ _ h1⟩
theorem TwoIs.start {n : Nat} (h : WaitIs w4 wr vw n a) : TwoIs w4 (wr.alloc (.cells #[.slice none 0 0, .slice none 0 0] 61)) vw wr.heap.size n a [] :=
  ⟨row_bel h.row (below_alloc (Below.refl _ _) _), ⟨.slice none 0 0, .slice none 0 0, new_blk _, ⟨rfl, .inl ⟨rfl, rfl⟩⟩, ⟨rfl, .inl ⟨rfl, rfl⟩⟩, Nat.lt_succ_self _, (fun g q => by cases q), rfl, Nat.zero_le _⟩, below_alloc h.below _, h.below.size, fun g q => (h.row.lt g q).2⟩
end
theorem wm_le {cs : List PCall} {D : Nat → Bool} {p i k : Nat} : wm cs D p i k ≤ (cs.length : Int) := by
  have h : ∀ E : Nat → Bool, wv cs E k ≤ (cs.length : Int) := fun E => by
    unfold wv
    split
    · omega
    · unfold waitN
      have := List.length_filter_le (fun q => !E q && (decide (q ≠ k) && aheadB (ca cs q) (ca cs k))) (List.range cs.length)
      rw [List.length_range] at this
      omega
  unfold wm
  split
  · exact h _
  · split
    · omega
    · exact h _
theorem wm_next {cs : List PCall} {D : Nat → Bool} {p i : Nat} (hp : p < cs.length) (hD : D p = false) {x y : Int} (hx : x = wm cs D p i i) (hy : y = if 0 < x ∧ aheadB (ca cs p) (ca cs i) = true then x - 1 else x) (k : Nat) : (if k = i then y else wm cs D p i k) = wm cs D p (i + 1) k := by
  by_cases e : k = i
  · subst e
    rw [if_pos rfl, hy]
    obtain ⟨h1, h2⟩ := wm_step (i := k) hp hD
    rw [← hx] at h1 h2
    by_cases q : 0 < x
    · rw [h2 q]
      by_cases a : aheadB (ca cs p) (ca cs k) = true
      · rw [if_pos ⟨q, a⟩, if_pos a]
      · rw [if_neg (fun z => a z.2), if_neg a]
    · rw [h1 q, if_neg (fun z => q z.1)]
  · rw [if_neg e, wm_other e]
theorem wv_zero {cs : List PCall} {D : Nat → Bool} {i : Nat} : wv cs D i = 0 ↔ D i = false ∧ waitN cs D i cs.length = 0 := by
  unfold wv
  cases h : D i with
  | true => simp
  | false => simp
theorem tabOf_len (L : List (Int × ByteArray)) (o : POp) : (tabOf L o).length ≤ L.length + 1 := by
  unfold tabOf
  split
  · rw [putL_len]; omega
  · omega
set_option maxRecDepth 200000 in
set_option maxHeartbeats 8000000 in
theorem orders_walk (w : World) (A : Option Addr) (c0 : Nat) (l0 : List (List POp)) (hr : Kd.C (Kd.slice 23 k23) w A l0.length l0) (hc0 : l0.length ≤ c0) (B : Option Addr) (c1 : Nat) (scr : List Int) (hr1 : (Kd.int .i64).C w B scr.length scr) (hc1 : scr.length ≤ c1) (hc2 : c1 ≤ 9223372036854775807)
    (hM : l0.length + 11 * (l0.map List.length).sum ≤ 16777216) (hs : scr.length ≤ 16777216) :
    Calls Try.prog 6 #[.slice A l0.length c0, .slice B scr.length c1] w fun e w' => e = .returned (.bool true) ∧ Below w.heap.size w w' := by
  obtain ⟨k0, hk0⟩ := long_no l0 scr (by omega) (by omega)
  obtain ⟨i0, hin, hz0', hz1', hz2'⟩ := info_parts rinfoInt
  have HIN := Lib.hid (And.intro hin (And.intro hz0' (And.intro hz1' hz2')))
  have hlen : l0.length ≤ 16777216 := by omega
  have hsl : scr.length ≤ 9223372036854775807 := by omega
  have HR := Lib.hid (And.intro hr (And.intro hr1 (And.intro hM hk0)))
  have HSC := Lib.hid (ScrIs.of_C hr1 hc1 hc2)
  clear hr hr1 hM hk0 hs hin hz0' hz1' hz2'
  go_enter Try.func6, Try.ntmps6
  go_wp2_with fail
  refine (lives_walk w).mono ?_
  rintro e w1 ⟨rfl, F1⟩
  have HB1 := Lib.hid (F1.below (Nat.le_refl w.heap.size) fun _ q => q.elim)
  clear F1
  go_wp2_with fail
  refine (fuguelaw11_long.calls k0 A c0 l0 B c1 scr false w1 (Kd.C_below HR.out.1 HB1.out) hc0 (Kd.C_below HR.out.2.1 HB1.out) hc1 HR.out.2.2.2).mono ?_
  rintro e w2 ⟨rfl, hd⟩
  obtain ⟨n1, hd1⟩ := drawn0_only hd
  have HB2 : Hid (Below w.heap.size w w2) := Lib.hid (by rw [hd1]; exact pw_below_drewN HB1.out _)
  clear hd hd1
  go_wp2_with fail
  refine (some_walk w2 A c0 l0 (Kd.C_below HR.out.1 HB2.out) hlen).mono ?_
  rintro e w3 ⟨vs, rfl, hrow, hb3⟩
  obtain ⟨As, Cs, rfl, hls, hCs⟩ := hrow.reads
  have hB3 := below_step HB2.out hb3
  have hCs3 : Kd.C (Kd.slice 23 k23) w3 As (someP l0 l0.length).length (someP l0 l0.length) := ReadsRow.imp_ hCs (Below.refl _ _) fun p c q => (Kd.slice 23 k23).K_below hb3 q
  have hS3 : ScrIs w3 w3.heap.size (.slice B scr.length c1) scr := by
    have ho : Only w w3 fun b => w.heap.size ≤ b := Only.of_below hB3 fun b q _ => q
    rcases HSC.out.keep (Nat.le_refl _) ho (Nat.le_refl _) with q | ⟨ib, off, C, q1, q2, q3, q4, q5⟩
    · exact .inl q
    · exact .inr ⟨ib, off, C, q1, q2, q3, Nat.lt_of_lt_of_le q4 hB3.size, q5⟩
  have HP := Lib.hid (play_walk w3 As Cs (someP l0 l0.length) hCs3 _ scr hS3 (by have := someP_sum l0; have := HR.out.2.2.1; omega))
  have HB3 := Lib.hid hB3
  clear hrow hb3 hCs hB3 hCs3 hS3
  go_wp2_with fail
  refine HP.out.mono ?_
  rintro e w3b ⟨v, H, rfl, hpe, hhi, F3⟩
  obtain ⟨Ah, Ch, rfl, hlh, hCh⟩ := hhi.reads
  obtain ⟨hHl, nx, tm, N, T, hgood, hcnt, hcok⟩ := play_orders (by have := someP_sum l0; have := HR.out.2.2.1; omega) hpe
  have HBp := Lib.hid (below_step HB3.out (F3.below (Nat.le_refl _) fun _ q => q.elim))
  have HCW := Lib.hid (calls_walk w3b Ah Ch H nx hCh hHl hgood hcnt)
  have hcl0 := callL_len H nx H.length
  have HOK := Lib.hid hcok
  clear hpe hhi F3 hCh hgood hcnt hcok HP
  go_wp2_with fail
  refine HCW.out.mono ?_
  rintro e w4 ⟨B4, v4, rfl, O4⟩
  obtain ⟨Ac, Cc, rfl, hlc, hCc⟩ := O4.reads
  generalize hcs : callL H nx H.length = cs at *
  have hcs1 : cs.length ≤ 16777216 := by omega
  have H4 := Lib.hid (And.intro (show k57.C w4 Ac cs.length cs from ReadsRow.imp_ hCc (Below.refl _ _) fun p c q => k57.K_below B4 q) (below_step HBp.out B4))
  clear B4 O4 hCc hcs HCW hcl0 hHl hlh
  have hu57 := Try.underlying57
  have hu50 := Try.underlying50
  go_wp2_with fail
  go_loopw [8, 9] (fun s8 s9 wr => ∃ i : Nat, i ≤ cs.length ∧ s9 = .int .i64 i ∧ WaitIs w4 wr s8 i (wv cs fun _ => false)) (fun _ s9 _ => cs.length - (intOf s9).toNat)
  case atStart => exact ⟨0, Nat.zero_le _, rfl, ⟨rfl, .inl ⟨rfl, rfl⟩⟩, Below.refl _ _⟩
  case round =>
    obtain ⟨wo, rfl⟩ : ∃ wo : World, wo = wr := ⟨_, rfl⟩
    obtain ⟨i, hi, rfl, hw8⟩ := hrel
    obtain ⟨A8, C8, rfl⟩ := own_slice hw8.row
    have HW8 := Lib.hid hw8
    clear hw8
    by_cases hlt : i < cs.length
    · have hlD : decide ((i : Int) < (cs.length : Int)) = true := by simp; omega
      go_wp2_with fail
      go_loopw [10, 11] (fun s10 s11 wr => ∃ k : Nat, k ≤ cs.length ∧ s10 = .int .i64 (waitN cs (fun _ => false) i k) ∧ s11 = .int .i64 k ∧ Below wo.heap.size wo wr) (fun _ s11 _ => cs.length - (intOf s11).toNat)
      case atStart => exact ⟨0, Nat.zero_le _, rfl, rfl, Below.refl _ _⟩
      case round =>
        obtain ⟨k, hk, rfl, rfl, hb⟩ := hrel
        have hwn : waitN cs (fun _ => false) i k ≤ k := by
          unfold waitN
          have := List.length_filter_le (fun q => !false && (decide (q ≠ i) && aheadB (ca cs q) (ca cs i))) (List.range k)
          rw [List.length_range] at this
          exact this
        have hstep : waitN cs (fun _ => false) i (k + 1) = waitN cs (fun _ => false) i k + if k ≠ i ∧ aheadB (ca cs k) (ca cs i) = true then 1 else 0 := by
          unfold waitN
          rw [List.range_succ, List.filter_append, List.length_append]
          congr 1
          by_cases q : k ≠ i ∧ aheadB (ca cs k) (ca cs i) = true
          · rw [if_pos q]; simp [q.1, q.2]
          · rw [if_neg q]
            simp only [List.filter_cons, List.filter_nil]
            rw [if_neg (by simpa using q)]
            rfl
        generalize hwk : waitN cs (fun _ => false) i k = wk at *
        have HB := Lib.hid (And.intro hb (And.intro hstep hwk))
        clear hb hstep hwk
        by_cases hlk : k < cs.length
        · have hkD : decide ((k : Int) < (cs.length : Int)) = true := by simp; omega
          have hki : (k : Int) < (cs.length : Int) := by omega
          have hii : (i : Int) < (cs.length : Int) := by omega
          have hk00 : (0 : Int) ≤ (k : Int) := by omega
          have hi00 : (0 : Int) ≤ (i : Int) := by omega
          by_cases hki2 : k = i
          · subst hki2
            have hkb : ((k : Int) != (k : Int)) = false := by simp
            go_wp2_with fail
            go_quiet (fail)
            go_wp2_with fail
            go_roundw
            case rel =>
              refine ⟨k + 1, by omega, ?_, by go_num, pw_below_drewN HB.out.1 _⟩
              rw [HB.out.2.1, if_neg (fun q => q.1 rfl)]
              rfl
            case measure => simp [intOf]; omega
          · have hkb : ((k : Int) != (i : Int)) = true := by rw [bne_iff_ne]; omega
            have hbw := below_step HW8.out.below HB.out.1
            obtain ⟨ad, A7, c7, A9, c9, hA, ⟨x0, x1, x2, x3, x4, x5, x6, x7, x8⟩, hin1⟩ := call_at H4.out.1 hbw hlk
            subst hA
            obtain ⟨ad', B7, d7, B9, d9, hA, ⟨y0, y1, y2, y3, y4, y5, y6, y7, y8⟩, hin2⟩ := call_at H4.out.1 hbw hlt
            cases hA
            have HA := Lib.hid (fun W (h : Below wr.heap.size wr W) => ahead_calls W (ca cs k) (ca cs i) (hin1.below h) (hin2.below h))
            unfold callV at HA
            clear hin1 hin2 hbw
            go_wp2_with fail
            refine wp_region_still_tail 12 (by kernel_rfl) (by kernel_rfl) ?_
            simp only [List.take_succ_cons, List.take_zero, List.drop_succ_cons, List.drop_zero]
            repeat still_step
            refine wpStill_nil ?_
            go_wp2_with fail
            refine (HA.out _ (below_drew1 (Below.refl _ _))).mono ?_
            rintro e w5 ⟨rfl, hb5⟩
            have HB5 := Lib.hid (below_step HB.out.1 ((below_drew1 (Below.refl wr.heap.size wr)).trans hb5))
            clear hb5 x0 x1 x2 x3 x4 x5 x6 x7 x8 y0 y1 y2 y3 y4 y5 y6 y7 y8
            cases hq : aheadB (ca cs k) (ca cs i) with
            | true =>
              have HQ := Lib.hid hq
              clear hq
              go_wp2_with fail
              go_roundw
              case rel =>
                refine ⟨k + 1, by omega, ?_, by go_num, HB5.out⟩
                rw [HB.out.2.1, if_pos ⟨hki2, HQ.out⟩]
                go_num
              case measure => simp [intOf]; omega
            | false =>
              have HQ := Lib.hid hq
              clear hq
              go_wp2_with fail
              go_roundw
              case rel =>
                refine ⟨k + 1, by omega, ?_, by go_num, HB5.out⟩
                rw [HB.out.2.1, if_neg (fun q => by rw [HQ.out] at q; cases q.2)]
                rfl
              case measure => simp [intOf]; omega
        · obtain rfl : k = cs.length := by omega
          have hkD : decide ((cs.length : Int) < (cs.length : Int)) = false := by simp
          have HW9 := Lib.hid (row_bel HW8.out.row HB.out.1)
          have hbs : w4.heap.size ≤ wr.heap.size := by
            have h1 := HW8.out.below.size
            have h2 := HB.out.1.size
            omega
          go_wp2_with (at_builtin; (refine wpl_app _ rfl _ _ 27 rfl w4.heap.size 3 i0 (.int .i64 0) 1 8 Try.underlying27 HIN.out.1 HIN.out.2.1 HIN.out.2.2.1 HIN.out.2.2.2 rfl (by decide) (.slice A8 i C8) i (rowI i (wv cs fun _ => false)) rfl (row_fresh HW9.out (alloc_only _ _)) wr.heap.size 1 1 [.int .i64 wk] 3 (0, 0) rfl (new_blk _) rfl (by simp [Value.oneCell']) (by unfold maxLen; omega) (by omega) (by simp; omega) ?_); intro A4 C4 w5 hown hgrow hat; have HW := Lib.hid (And.intro hown hgrow); clear hown hgrow hat)
          go_roundw
          case rel => exact ⟨i + 1, by omega, by go_num, HW8.out.snoc HB.out.1 (by unfold wv; rw [if_neg (by simp), HB.out.2.2]) HW.out.1 HW.out.2⟩
          case measure => simp [intOf]; omega
    · obtain rfl : i = cs.length := by omega
      have hlD : decide ((cs.length : Int) < (cs.length : Int)) = false := by simp
      have HT0 := Lib.hid (TwoIs.start HW8.out)
      obtain ⟨pb, hpb⟩ : ∃ pb, pb = wo.heap.size := ⟨_, rfl⟩
      rw [← hpb] at HT0
      go_wp2_with fail
      rw [← hpb]
      clear hpb
      go_loopw [13] (fun s13 wr => ∃ (n : Nat) (D : Nat → Bool) (L : List (Int × ByteArray)), n ≤ cs.length ∧ s13 = .int .i64 n ∧ TwoIs w4 wr (.slice A8 cs.length C8) pb cs.length (wv cs D) L ∧ Taken cs D L ∧ countD D cs.length = n ∧ L.length ≤ n) (fun s13 _ => cs.length - (intOf s13).toNat)
      case atStart => exact ⟨0, fun _ => false, [], Nat.zero_le _, rfl, HT0.out, Taken.start cs, by unfold countD; simp, Nat.le_refl _⟩
      case round =>
        obtain ⟨wp, rfl⟩ : ∃ wp : World, wp = wr := ⟨_, rfl⟩
        obtain ⟨n, D, L, hn, rfl, htw, htk, hcn, hLn⟩ := hrel
        have HT := Lib.hid (And.intro htw (And.intro htk hcn))
        clear htw htk hcn HT0
        by_cases hlt2 : n < cs.length
        · have hnD : decide ((n : Int) < (cs.length : Int)) = true := by simp; omega
          have hnext := HOK.out.next D (countD_free (by rw [HT.out.2.2]; exact hlt2))
          have HNX := Lib.hid hnext
          clear hnext
          go_wp2_with fail
          go_loopw [14, 15] (fun s14 s15 wr => ∃ k : Nat, k ≤ cs.length ∧ s15 = .int .i64 k ∧ ((s14 = .int .i64 (-1) ∧ ∀ q, q < k → wv cs D q ≠ 0) ∨ ∃ p : Nat, p < cs.length ∧ s14 = .int .i64 p ∧ wv cs D p = 0) ∧ wp = wr) (fun _ s15 _ => cs.length - (intOf s15).toNat)
          case atStart => exact ⟨0, Nat.zero_le _, rfl, .inl ⟨rfl, fun q hq => by omega⟩, rfl⟩
          case round =>
            obtain ⟨k, hk, rfl, hfound, rfl⟩ := hrel
            rcases hfound with ⟨rfl, hno⟩ | ⟨p, hp, rfl, hz⟩
            · have HNO := Lib.hid hno
              clear hno
              by_cases hlk : k < cs.length
              · have hkD : decide ((k : Int) < (cs.length : Int)) = true := by simp; omega
                have hkI : (k : Int) < (cs.length : Int) := by omega
                have hk0I : (0 : Int) ≤ (k : Int) := by omega
                obtain ⟨g, c, he, z0, z1, z2⟩ := HT.out.1.cell hlk
                have hA8 : A8 = some ⟨g, 0, none⟩ := by injection he
                clear he
                subst hA8
                obtain ⟨x, hx⟩ : ∃ x, x = wv cs D k := ⟨_, rfl⟩
                rw [← hx] at z0
                have HX := Lib.hid hx
                clear hx
                by_cases hx0 : x = 0
                · subst hx0
                  go_wp2_with fail
                  go_roundw
                  case rel => exact ⟨k + 1, by omega, by go_num, .inr ⟨k, hlk, rfl, HX.out.symm⟩, trivial⟩
                  case measure => simp [intOf]; omega
                · have hxD : (x == 0) = false := beq_eq_false_iff_ne.2 hx0
                  have HX0 := Lib.hid hx0
                  clear hx0
                  go_wp2_with fail
                  go_roundw
                  case rel =>
                    refine ⟨k + 1, by omega, by go_num, .inl ⟨rfl, fun q hq => ?_⟩, trivial⟩
                    by_cases e : q = k
                    · rw [e, ← HX.out]; exact HX0.out
                    · exact HNO.out q (by omega)
                  case measure => simp [intOf]; omega
              · obtain rfl : k = cs.length := by omega
                obtain ⟨j, hj, hDj, hwj⟩ := HNX.out
                exact absurd (wv_zero.2 ⟨hDj, hwj⟩) (HNO.out j hj)
            · obtain ⟨hDp, hwp⟩ := wv_zero.1 hz
              have hstep := HT.out.2.1.step HOK.out hp hDp (waitN_zero hwp)
              have hok := HOK.out.ok p hp
              obtain ⟨vk, vv, htab⟩ := HT.out.1.tab
              have hdo : Calls Try.prog 28 #[.pointer (some ⟨pb, 0, none⟩), .agg #[.int .i64 (ca cs p).f2.f0, .int .i64 (ca cs p).f2.f1, .string (ca cs p).f2.f2]] wp fun e w' => ∃ A2 c2 A3 c3, e = .returned (.agg #[.bool (ca cs p).f3.f0, .string (ca cs p).f3.f1, .slice A2 (ca cs p).f3.f2.length c2, .slice A3 (ca cs p).f3.f3.length c3]) ∧ RepIn w' (ca cs p).f3 A2 c2 A3 c3 ∧ TwoIs w4 w' (.slice A8 cs.length C8) pb cs.length (wv cs D) (tabOf L (ca cs p).f2) := by
                refine (do_walk htab HT.out.2.1.rising (by omega) (blk_lt htab.blk) (ca cs p).f2 hok).mono fun e w' ⟨vk', vv', A2, c2, A3, c3, he, h1, h2, h3⟩ => ?_
                rw [hstep.1] at he h1
                exact ⟨A2, c2, A3, c3, he, h1, HT.out.1.did htab h3 h2⟩
              have hpI : (p : Int) < (cs.length : Int) := by omega
              have hp0 : (0 : Int) ≤ (p : Int) := by omega
              have hpD : decide ((p : Int) < 0) = false := by simp
              have hpD2 : ¬ (p : Int) < 0 := by omega
              obtain ⟨ad, A7, c7, A9, c9, hA, ⟨x0, x1, x2, x3, x4, x5, x6, x7, x8⟩, _⟩ := call_at H4.out.1 HT.out.1.below hp
              subst hA
              have HDO := Lib.hid hdo
              have HST := Lib.hid (And.intro hstep.2 hDp)
              clear hdo hstep hok htab hz hDp hwp x0 x1 x5 x6 x7 x8
              rcases Classical.em (k < cs.length) with hlk | hlk
              all_goals (
                go_wp2_with fail
                refine HDO.out.mono ?_
                rintro e w5 ⟨A2, c2, A3, c3, rfl, hrin2, htw5⟩
                have H5 := Lib.hid (And.intro hrin2 htw5)
                clear hrin2 htw5 x2 x3 x4
                go_wp2_with fail
                refine nameW ?_
                intro V hV
                have hbV : Below w5.heap.size w5 V := by rw [hV]; exact below_alloc (Below.refl _ _) _
                have hd : V.heap[w5.heap.size]? = some (.cells #[.bool (ca cs p).f3.f0, .string (ca cs p).f3.f1, .slice A2 (ca cs p).f3.f2.length c2, .slice A3 (ca cs p).f3.f3.length c3] 50 (0, 0)) := by rw [hV]; exact new_blk _
                have htV := H5.out.2.later hbV
                have d0 := blk_cell hd (i := 0) rfl
                have d1 := blk_cell hd (i := 1) rfl
                have d2 := blk_cell hd (i := 2) rfl
                have d3 := blk_cell hd (i := 3) rfl
                obtain ⟨ad', B7, e7, B9, e9, hA, ⟨_, _, _, _, _, y5, y6, y7, y8⟩, hrin1⟩ := call_at H4.out.1 htV.below hp
                cases hA
                have HV := Lib.hid (And.intro htV (And.intro (H5.out.1.below hbV) hrin1))
                clear hV hbV hd htV hrin1
                refine wp_region_still_tail 6 (by kernel_rfl) (by kernel_rfl) ?_
                simp only [List.take_succ_cons, List.take_zero, List.drop_succ_cons, List.drop_zero]
                repeat still_step
                refine wpStill_nil ?_
                go_wp2_with fail
                refine (eqreply_calls _ (ca cs p).f3 (HV.out.2.1.below (below_drew1 (Below.refl _ _))) (HV.out.2.2.below (below_drew1 (Below.refl _ _)))).mono ?_
                rintro e w6 ⟨rfl, hb6⟩
                have HT6 := Lib.hid (HV.out.1.later ((below_drew1 (Below.refl V.heap.size V)).trans hb6))
                clear hb6 d0 d1 d2 d3 y5 y6 y7 y8
                obtain ⟨g, c, he, z0, z1, z2⟩ := HT6.out.cell hp
                have hA8 : A8 = some ⟨g, 0, none⟩ := by injection he
                clear he
                subst hA8
                go_wp2_with fail
                clear z0 z1 z2
                go_loopw [17] (fun s17 wr => ∃ i : Nat, i ≤ cs.length ∧ s17 = .int .i64 i ∧ TwoIs w4 wr (.slice (some ⟨g, 0, none⟩) cs.length C8) pb cs.length (wm cs D p i) (tabOf L (ca cs p).f2)) (fun s17 _ => cs.length - (intOf s17).toNat)
                case atStart => exact ⟨0, Nat.zero_le _, rfl, (HT6.out.set p (-1)).congr fun i _ => (wm_start i).symm⟩
                case round =>
                  obtain ⟨i, hi, rfl, hti⟩ := hrel
                  have HTI := Lib.hid hti
                  clear hti
                  by_cases hli : i < cs.length
                  · have hiD : decide ((i : Int) < (cs.length : Int)) = true := by simp; omega
                    have hiI : (i : Int) < (cs.length : Int) := by omega
                    have hi0 : (0 : Int) ≤ (i : Int) := by omega
                    obtain ⟨g', c', he, z0, z1, z2⟩ := HTI.out.cell hli
                    have hgg : g = g' := by injection he with he _ _; injection he with he; injection he with he _ _
                    clear he
                    subst hgg
                    obtain ⟨x, hx⟩ : ∃ x, x = wm cs D p i i := ⟨_, rfl⟩
                    have hxl : x ≤ (cs.length : Int) := by rw [hx]; exact wm_le
                    rw [← hx] at z0
                    have HX := Lib.hid hx
                    clear hx
                    by_cases hxp : 0 < x
                    · have hxD : decide (0 < x) = true := by simpa using hxp
                      obtain ⟨ad', A7', c7', A9', c9', hA, ⟨x0, x1, x2, x3, x4, x5, x6, x7, x8⟩, hin1⟩ := call_at H4.out.1 HTI.out.below hp
                      cases hA
                      obtain ⟨ad', B7', d7', B9', d9', hA, ⟨y0, y1, y2, y3, y4, y5, y6, y7, y8⟩, hin2⟩ := call_at H4.out.1 HTI.out.below hli
                      cases hA
                      have HA := Lib.hid (fun W (h : Below wr.heap.size wr W) => ahead_calls W (ca cs p) (ca cs i) (hin1.below h) (hin2.below h))
                      unfold callV at HA
                      clear hin1 hin2
                      go_wp2_with fail
                      refine wp_region_still_tail 14 (by kernel_rfl) (by kernel_rfl) ?_
                      simp only [List.take_succ_cons, List.take_zero, List.drop_succ_cons, List.drop_zero]
                      repeat still_step
                      refine wpStill_nil ?_
                      go_wp2_with fail
                      refine (HA.out _ (below_drew1 (Below.refl _ _))).mono ?_
                      rintro e w7 ⟨rfl, hb7⟩
                      have HT7 := Lib.hid (HTI.out.later ((below_drew1 (Below.refl wr.heap.size wr)).trans hb7))
                      clear hb7 x0 x1 x2 x3 x4 x5 x6 x7 x8 y0 y1 y2 y3 y4 y5 y6 y7 y8 z0 z1 z2
                      obtain ⟨g', c', he, z0, z1, z2⟩ := HT7.out.cell hli
                      have hgg : g = g' := by injection he with he _ _; injection he with he; injection he with he _ _
                      clear he
                      subst hgg
                      rw [← HX.out] at z0
                      cases hq : aheadB (ca cs p) (ca cs i) with
                      | true =>
                        have HQ := Lib.hid hq
                        clear hq
                        go_wp2_with fail
                        go_roundw
                        case rel => exact ⟨i + 1, by omega, by go_num, (HT7.out.set i (x - 1)).congr fun k _ => wm_next hp HST.out.2 HX.out (by rw [if_pos ⟨hxp, HQ.out⟩]) k⟩
                        case measure => simp [intOf]; omega
                      | false =>
                        have HQ := Lib.hid hq
                        clear hq
                        go_wp2_with fail
                        go_roundw
                        case rel => exact ⟨i + 1, by omega, by go_num, HT7.out.congr fun k _ => by
                          rw [← wm_next hp HST.out.2 HX.out (y := x) (by rw [if_neg (fun q => by rw [HQ.out] at q; cases q.2)]) k]
                          split
                          · rename_i e; rw [e]; exact HX.out.symm
                          · rfl⟩
                        case measure => simp [intOf]; omega
                    · have hxD : decide (0 < x) = false := by simpa using hxp
                      have HXP := Lib.hid hxp
                      go_wp2_with fail
                      go_quiet (fail)
                      go_wp2_with fail
                      go_roundw
                      case rel => exact ⟨i + 1, by omega, by go_num, (HTI.out.later (pw_below_drewN (Below.refl _ _) _)).congr fun k _ => by
                        rw [← wm_next hp HST.out.2 HX.out (y := x) (by rw [if_neg (fun q => absurd q.1 (by have := HXP.out; omega))]) k]
                        split
                        · rename_i e; rw [e]; exact HX.out.symm
                        · rfl⟩
                      case measure => simp [intOf]; omega
                  · obtain rfl : i = cs.length := by omega
                    have hiD : decide ((cs.length : Int) < (cs.length : Int)) = false := by simp
                    go_wp2_with fail
                    go_roundw
                    case rel =>
                      refine ⟨n + 1, fun q => if q = p then true else D q, tabOf L (ca cs p).f2, by omega, by go_num, HTI.out.congr fun k hk => wm_end k hk, HST.out.1, ?_, ?_⟩
                      · rw [countD_take HST.out.2, if_pos hp, HT.out.2.2]
                      · have := tabOf_len L (ca cs p).f2
                        omega
                    case measure => simp [intOf]; omega)
        · obtain rfl : n = cs.length := by omega
          have hnD : decide ((cs.length : Int) < (cs.length : Int)) = false := by simp
          go_wp2_with fail
          go_ret
          exact ⟨rfl, below_step H4.out.2 HT.out.1.below⟩
end Go.Proofs.Ytihjpbalkjhjbaa
namespace Go.Proofs.Ytihjpbalkjhjbaa
theorem bulk_pos {H : Type} (d : DataW H) : 1 ≤ Rows.uptoBulk d := by
  cases d with
  | lit l => cases l <;> simp [Rows.uptoBulk]
  | _ => simp [Rows.uptoBulk]
end Go.Proofs.Ytihjpbalkjhjbaa
namespace Go.Proofs.Ytihjpbalkjhjbaa
open Go.ChangeShapes Go.WideShapes Go.RowKit Go.Deep Go.Proofs.YtihjpbalkjhjbaaW.PrintWords
section
variable {H : Type} {enc : TypeId × Value → H} {P : Program} {W : World} {sp : Nat → Bool} {held : Bool}
/-- sz: so much of the bound a value takes at least -/
def OpensB (enc : TypeId × Value → H) (P : Program) (W : World) (sp : Nat → Bool) (held : Bool) (t : TypeId) {α : Type} (K : Kd α) (sz : α → Nat) : Prop :=
  ∀ (fuel base : Nat) (cs : List Value) (x : DataW H × List MemPlace), DataW.trod enc P W base sp held fuel t cs = some x → ∃ a, K.K W a cs ∧ sz a ≤ Rows.uptoBulk x.1
theorem OpensB.imp {t : TypeId} {α : Type} {K : Kd α} {sz sz' : α → Nat} (h : OpensB enc P W sp held t K sz) (hs : ∀ a, sz' a ≤ sz a) : OpensB enc P W sp held t K sz' := fun fuel base cs x hx =>
  let ⟨a, h1, h2⟩ := h fuel base cs x hx
  ⟨a, h1, Nat.le_trans (hs a) h2⟩
theorem opensB_int {t : TypeId} {k : IntKind} (ht : P.underlying t = some (.int k)) : OpensB enc P W sp held t (Kd.int k) (fun _ => 1) := by
  intro fuel base cs x h
  obtain ⟨n, h1, _, h2⟩ := DataW.trod_int ht h
  exact ⟨n, h1, bulk_pos _⟩
theorem opensB_string {t : TypeId} (ht : P.underlying t = some .string) : OpensB enc P W sp held t Kd.string (fun s => s.size + 1) := by
  intro fuel base cs x h
  obtain ⟨s, h1, h2, _⟩ := DataW.trod_string ht h
  refine ⟨s, h1, ?_⟩
  rw [h2]
  simp [Rows.uptoBulk]
theorem blist_of_ex {α : Type} {p : Nat → α → Prop} : ∀ n : Nat, (∀ i, i < n → ∃ a, p i a) → ∃ l : List α, l.length = n ∧ ∀ i a, l[i]? = some a → p i a := by
  intro n
  induction n with
  | zero => intro _; exact ⟨[], rfl, fun i a h => by simp at h⟩
  | succ n ih =>
    intro h
    obtain ⟨l, h1, h2⟩ := ih fun i hi => h i (by omega)
    obtain ⟨a, ha⟩ := h n (by omega)
    refine ⟨l ++ [a], by simp [h1], fun i b hb => ?_⟩
    rcases Nat.lt_or_ge i l.length with q | q
    · rw [List.getElem?_append_left q] at hb
      exact h2 i b hb
    · rw [List.getElem?_append_right q] at hb
      rcases Nat.eq_zero_or_pos (i - l.length) with z | z
      · rw [z] at hb
        obtain rfl := Option.some.inj hb
        obtain rfl : i = n := by omega
        exact ha
      · rw [List.getElem?_eq_none (by simp; omega)] at hb
        cases hb
theorem bulk_sum {α : Type} {sz : α → Nat} : ∀ (l : List α) (ds : List (DataW H)), l.length = ds.length → (∀ (i : Nat) (a : α) (d : DataW H), l[i]? = some a → ds[i]? = some d → sz a ≤ Rows.uptoBulk d) → (l.map sz).sum ≤ Rows.uptoBulkAll ds
  | [], _, _, _ => Nat.zero_le _
  | a :: l, [], h, _ => by simp at h
  | a :: l, d :: ds, h, hs => by
    have h1 := bulk_sum l ds (by simpa using h) fun i a' d' q1 q2 => hs (i + 1) a' d' (by simpa using q1) (by simpa using q2)
    have h2 := hs 0 a d rfl rfl
    simp only [List.map_cons, List.sum_cons, Rows.uptoBulkAll]
    omega
theorem opensB_slice {t e : TypeId} {α : Type} {K : Kd α} {sz : α → Nat} (ht : P.underlying t = some (.slice e)) (hc : P.cellsOf e = K.sz) (h : OpensB enc P W sp held e K sz) :
    OpensB enc P W sp held t (Kd.slice e K) (fun l => (l.map sz).sum + 1) := by
  intro fuel base cs x hx
  rcases open_slice ht hx with ⟨rfl, _⟩ | ⟨a, len, cap, m, n, D, Pl, rfl, _, hl, hm, hmm, rfl, hi⟩
  · exact ⟨[], ⟨none, 0, rfl, Nat.le_refl _, rfl, Nat.zero_le _, fun q => by cases q⟩, by simpa using bulk_pos x.1⟩
  · have hlm : len ≤ m := by rw [hmm]; split <;> omega
    obtain ⟨l, l1, l2⟩ := blist_of_ex (p := fun i (y : α) => (∃ c : List Value, c.length = K.sz ∧ K.K W y c ∧ ∀ j u, c[j]? = some u → W.cell? (a.add (i * K.sz + j)) = some u) ∧ sz y ≤ Rows.uptoBulk (D i)) len fun i hin => by
      obtain ⟨cs', c1, c2⟩ := hi i (by omega)
      obtain ⟨y, y1, y2⟩ := h _ _ _ _ c2
      obtain ⟨_, c3, c4⟩ := World.cells?_some c1
      rw [hc] at c3 c4
      refine ⟨y, ⟨cs', c3, y1, fun j u hu => ?_⟩, y2⟩
      have hj : j < K.sz := by rw [← c3]; exact (List.getElem?_eq_some_iff.1 hu).1
      have := c4 j hj
      rw [hu, Go.Deep.add_add] at this
      exact this
    subst l1
    unfold maxLen at hm
    refine ⟨l, ⟨some a, cap, rfl, hl, rfl, by omega, fun _ => ⟨a, rfl, fun j p hp => (l2 j p hp).1⟩⟩, ?_⟩
    have hs := bulk_sum (sz := sz) l ((List.range l.length).map D) (by simp) fun i y d q1 q2 => by
      have hil := (List.getElem?_eq_some_iff.1 q1).1
      rw [List.getElem?_map, List.getElem?_range hil] at q2
      cases q2
      exact (l2 i y q1).2
    simp only [Rows.uptoBulk]
    omega
def OpensFB (enc : TypeId × Value → H) (P : Program) (W : World) (sp : Nat → Bool) (held : Bool) (fs : List Field) (off : Nat) {α : Type} (K : Kd α) (sz : α → Nat) : Prop :=
  ∀ (n base : Nat) (cs : List Value) (ys : List (DataW H × List MemPlace)), (∀ (i : Nat) (f : Field), fs[i]? = some f → DataW.trod enc P W base sp held n f.type ((cs.drop f.offset).take (P.cellsOf f.type)) = ys[i]?) →
    ys.length = fs.length → cs.length = off + K.sz → ∃ a, K.K W a (cs.drop off) ∧ sz a ≤ Rows.uptoBulkAll (ys.map (·.1))
theorem opensFB_one {f : Field} {off : Nat} {α : Type} {K : Kd α} {sz : α → Nat} (ho : f.offset = off) (hc : P.cellsOf f.type = K.sz) (h : OpensB enc P W sp held f.type K sz) : OpensFB enc P W sp held [f] off K sz := by
  intro n base cs ys hy hl hcs
  match ys, hl with
  | [y], _ =>
    have h0 := hy 0 f rfl
    rw [ho, hc, List.take_of_length_le (by rw [List.length_drop]; omega)] at h0
    obtain ⟨a, h1, h2⟩ := h _ _ _ _ h0
    exact ⟨a, h1, by simpa [Rows.uptoBulkAll] using h2⟩
theorem opensFB_cons {f : Field} {fs : List Field} {off : Nat} {α β : Type} {K0 : Kd α} {sz0 : α → Nat} {K1 : Kd β} {sz1 : β → Nat} (ho : f.offset = off) (hc : P.cellsOf f.type = K0.sz) (h0 : OpensB enc P W sp held f.type K0 sz0) (h1 : OpensFB enc P W sp held fs (off + K0.sz) K1 sz1) :
    OpensFB enc P W sp held (f :: fs) off (Kd.pair K0 K1) (fun p => sz0 p.1 + sz1 p.2) := by
  intro n base cs ys hy hl hcs
  match ys, hl with
  | y :: ys, hl =>
    have e0 := hy 0 f rfl
    rw [ho, hc] at e0
    have hcs' : cs.length = off + (K0.sz + K1.sz) := hcs
    obtain ⟨a, a1, a2⟩ := h0 _ _ _ _ e0
    obtain ⟨b, b1, b2⟩ := h1 n base cs ys (fun i g hg => hy (i + 1) g hg) (by simpa using hl) (by omega)
    refine ⟨(a, b), ⟨_, _, ?_, a1, b1⟩, ?_⟩
    · rw [← List.drop_drop, List.take_append_drop]
    · simp only [List.map_cons, Rows.uptoBulkAll]
      omega
theorem opensB_struct {t : TypeId} {fs : Array Field} {α β : Type} {K : Kd α} {sz : α → Nat} (f : β → α) (g : α → β) (hfg : ∀ a, f (g a) = a) (ht : P.underlying t = some (.struct fs)) (hc : P.cellsOf t = K.sz) (h : OpensFB enc P W sp held fs.toList 0 K sz) :
    OpensB enc P W sp held t (Kd.iso K f) (fun b => sz (f b) + 1) := by
  intro fuel base cs x hx
  obtain ⟨ys, n, _, rfl, hl, hyl, hf⟩ := DataW.trod_struct ht hx
  obtain ⟨a, a1, a2⟩ := h n base cs ys (fun i q hq => hf i q (by simpa using hq)) (by simpa using hyl) (by rw [hl, hc, Nat.zero_add])
  refine ⟨g a, by show K.K W (f (g a)) cs; rw [hfg]; exact a1, ?_⟩
  simp only [Rows.uptoBulk, hfg]
  omega
/-- a slice that a law takes -/
theorem opensB_arg {t e : TypeId} {α : Type} {K : Kd α} {sz : List α → Nat} {A : Option Addr} {n c : Nat} {d : DataW H} {p : List MemPlace} (ht0 : P.underlying t = some (.slice e)) (h : OpensB enc P W (fun _ => true) held t (Kd.slice e K) sz) {base : Nat} (ht : DataW.Trod enc P W base (fun _ => true) held t (.slice A n c) d p) :
    ∃ l : List α, n = l.length ∧ l.length ≤ c ∧ Kd.C K W A l.length l ∧ sz l ≤ Rows.uptoBulk d ∧ c ≤ 9223372036854775807 := by
  obtain ⟨fuel, hf⟩ := ht
  have hcap : c ≤ 9223372036854775807 := by
    rcases open_slice ht0 hf with ⟨q, _⟩ | ⟨a, len, cap, m, n', D, Pl, q, _, hl, hm, hmm, _, hi⟩
    · simp [Value.cells] at q
      omega
    · simp [Value.cells] at q
      obtain ⟨_, _, q⟩ := q
      have hm' : m = cap := by simpa using hmm
      unfold maxLen at hm
      omega
  obtain ⟨l, ⟨A', c', h1, h2, h3⟩, h4⟩ := h _ _ _ _ hf
  have h1' : [Value.slice A n c] = [Value.slice A' l.length c'] := h1
  injection h1' with h1' _
  injection h1' with e1 e2 e3
  subst e1; subst e3
  exact ⟨l, e2, h2, h3, h4, hcap⟩
end
end Go.Proofs.Ytihjpbalkjhjbaa
namespace Go.Proofs.Ytihjpbalkjhjbaa
open Go.ChangeShapes Go.WideShapes Go.ChangeAt Go.RowKit Go.Deep
theorem own : ownKnob Try.prog.godebug = none := by kernel_rfl
theorem laidOut : laidOutB Try.prog = true := by kernel_rfl
section
variable {H : Type} {enc : TypeId × Value → H} {P : Program} {w : World} {base : Nat} {spare : Nat → Bool} {held : Bool}
end
end Go.Proofs.Ytihjpbalkjhjbaa
namespace Go.Proofs.Ytihjpbalkjhjbaa
open Go.ChangeShapes Go.WideShapes Go.ChangeAt Go.RowKit Go.Deep Go.Proofs.YtihjpbalkjhjbaaW.PrintWords Go.Proofs.Ytihjpbalkjhjbaa.PTableEnds
theorem sum_ones {α : Type} (l : List α) : l.length ≤ (l.map fun _ => 1).sum := by
  induction l with
  | nil => exact Nat.zero_le _
  | cons a l ih =>
    simp only [List.map_cons, List.sum_cons, List.length_cons]
    omega
theorem sum_rows {α : Type} (l : List (List α)) : l.length + (l.map List.length).sum ≤ (l.map fun x => x.length + 1).sum := by
  induction l with
  | nil => exact Nat.zero_le _
  | cons a l ih =>
    simp only [List.map_cons, List.sum_cons, List.length_cons]
    omega
section
variable {H : Type} {enc : TypeId × Value → H} {W : World} {sp : Nat → Bool} {held : Bool}
theorem oOp : OpensB enc Try.prog W sp held 23 k23 (fun _ => 1) :=
  (opensB_struct (fun x : POp => (x.f0, x.f1, x.f2)) (fun a => ⟨a.1, a.2.1, a.2.2⟩) (fun _ => rfl) Try.underlying23 (by kernel_rfl) (opensFB_cons rfl (by kernel_rfl) (opensB_int Try.underlying3) (opensFB_cons rfl (by kernel_rfl) (opensB_int Try.underlying3) (opensFB_one rfl (by kernel_rfl) (opensB_string Try.underlying9))))).imp fun _ => by omega
theorem oOps : OpensB enc Try.prog W sp held 41 (Kd.slice 23 k23) (fun l => l.length + 1) :=
  (opensB_slice Try.underlying41 (by kernel_rfl) oOp).imp fun l => Nat.succ_le_succ (sum_ones l)
theorem oRows : OpensB enc Try.prog W sp held 34 (Kd.slice 41 (Kd.slice 23 k23)) (fun l => l.length + (l.map List.length).sum) :=
  (opensB_slice Try.underlying34 (by kernel_rfl) oOps).imp fun l => Nat.le_succ_of_le (sum_rows l)
theorem oInts : OpensB enc Try.prog W sp held 27 (Kd.slice 3 (Kd.int .i64)) (fun l => l.length) :=
  (opensB_slice Try.underlying27 (by kernel_rfl) (opensB_int Try.underlying3)).imp fun l => Nat.le_succ_of_le (sum_ones l)
end
end Go.Proofs.Ytihjpbalkjhjbaa
