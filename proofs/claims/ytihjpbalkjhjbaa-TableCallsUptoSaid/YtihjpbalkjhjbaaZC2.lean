/- Steps towards the law (texts of this seat, put into one). No conditions of its own beyond those that its theorems name. -/
import Derived.Test.YtihjpbalkjhjbaaZC1
import Derived.Test.YtihjpbalkjhjbaaZC0
import Derived.Deep.RegionLaw
import Derived.StillTailTactics
import Derived.Laws.Tables
import Derived.Test.YtihjpbalkjhjbaaRows
import Derived.Test.YtihjpbalkjhjbaaWWords
import Derived.Deep.Slices
import Derived.ChangeArms
import Derived.SizedLaws
import Derived.ProofKit
import Derived.OpenShut
import Derived.ShutString
import Derived.ChangeOld
import Derived.Below
import Derived.Deep.Fields
import Derived.ChangeSame
namespace Go.Proofs.Ytihjpbalkjhjbaa
open Go.RowKit Go.MapKept Go.MuLone Go.Shelf Go.Proofs.YtihjpbalkjhjbaaW.PrintWords Go.Proofs.YtihjpbalkjhjbaaW.PrintLast Go.Proofs.YtihjpbalkjhjbaaW.PrintMore Go.Proofs.Ytihjpbalkjhjbaa.PTableEnds
/-- tags tell whose a block is; what is not made yet has 0, and what serves one function alone -/
def Cl (w : World) (tg : Nat → Nat) : Prop := ∀ b, w.heap.size ≤ b → tg b = 0
/-- tags stay -/
def TgX (w : World) (tg tg' : Nat → Nat) : Prop := ∀ b, b < w.heap.size → tg' b = tg b
/-- only blocks of tag t were turned -/
abbrev OnT (w w' : World) (tg : Nat → Nat) (t : Nat) : Prop := Only w w' fun b => tg b = t
section
variable {w w1 w2 : World} {tg tg1 tg2 : Nat → Nat}
theorem TgX.refl (w : World) (tg : Nat → Nat) : TgX w tg tg := fun _ _ => rfl
theorem TgX.trans (h : TgX w tg tg1) (hs : w.heap.size ≤ w1.heap.size) (k : TgX w1 tg1 tg2) : TgX w tg tg2 := fun b hb => (k b (Nat.lt_of_lt_of_le hb hs)).trans (h b hb)
theorem Cl.mono (h : Cl w tg) (hs : w.heap.size ≤ w1.heap.size) : Cl w1 tg := fun b hb => h b (Nat.le_trans hs hb)
/-- a block of one function alone stays -/
theorem OnT.blk {t g : Nat} {o : Obj} (h : OnT w w1 tg t) (hg : w.heap[g]? = some o) (h0 : tg g = 0) (ht : t ≠ 0) : w1.heap[g]? = some o := Only.blk h hg fun (q : tg g = t) => ht (by rw [← q, h0])
theorem fresh_onT {t : Nat} (h : Fresh w w1) : OnT w w1 tg t := h.mono fun _ _ q => q.elim
end
/-- a table of the program's, all of whose blocks bear the tag t -/
def PTab (w : World) (tg : Nat → Nat) (t tb : Nat) (L : List (Int × ByteArray)) : Prop := ∃ lab, TabAt w tb lab (lookL L) ∧ ∀ b, lab b ≠ none → tg b = t
/-- a table of the document's, so -/
def RTb (w : World) (tg : Nat → Nat) (t rt : Nat) (L : List (Int × ByteArray)) : Prop := ∃ base vk vv, RTab w rt base (keysL L) (valsL L) vk vv ∧ base ≤ w.heap.size ∧ ∀ b, TabS rt vk vv b → tg b = t
section
variable {w w' : World} {tg tg' : Nat → Nat} {t tb : Nat} {L : List (Int × ByteArray)} {S : Nat → Prop}
theorem PTab.keep (h : PTab w tg t tb L) (ho : Only w w' S) (hx : TgX w tg tg') (hs : ∀ b, tg b = t → ¬ S b) : PTab w' tg' t tb L := by
  obtain ⟨lab, ha, ht⟩ := h
  have hold : ∀ b, lab b ≠ none → b < w.heap.size := by obtain ⟨bm, f, cs, q⟩ := ha; exact q.old
  exact ⟨lab, ha.only ho fun b hb => hs b (ht b hb), fun b hb => (hx b (hold b hb)).trans (ht b hb)⟩
theorem RTb.keep (h : RTb w tg t tb L) (ho : Only w w' S) (hx : TgX w tg tg') (hs : ∀ b, tg b = t → ¬ S b) : RTb w' tg' t tb L := by
  obtain ⟨base, vk, vv, ha, hb, ht⟩ := h
  exact ⟨base, vk, vv, ha.only ho fun b hb q => hs b (ht b q) hb, Nat.le_trans hb ho.size, fun b q => (hx b (ha.lt q)).trans (ht b q)⟩
theorem PTab.fresh (h : PTab w tg t tb L) (ho : Fresh w w') : PTab w' tg t tb L := h.keep ho (TgX.refl _ _) fun _ _ q => q
theorem RTb.fresh (h : RTb w tg t tb L) (ho : Fresh w w') : RTb w' tg t tb L := h.keep ho (TgX.refl _ _) fun _ _ q => q
theorem PTab.far {u : Nat} (h : PTab w tg t tb L) (ho : OnT w w' tg u) (hx : TgX w tg tg') (hu : t ≠ u) : PTab w' tg' t tb L := h.keep ho hx fun _ q q2 => hu (q.symm.trans q2)
theorem RTb.far {u : Nat} (h : RTb w tg t tb L) (ho : OnT w w' tg u) (hx : TgX w tg tg') (hu : t ≠ u) : RTb w' tg' t tb L := h.keep ho hx fun _ q q2 => hu (q.symm.trans q2)
end
/-- what does leaves, with tags -/
def DoesT (w w' : World) (tg : Nat → Nat) (t tb : Nat) (L : List (Int × ByteArray)) (o : POp) (e : Ending) : Prop :=
  ∃ A2 c2 A3 c3 tg', e = .returned (repV (repOf L o) A2 c2 A3 c3) ∧ KRow w w' (.slice A2 (repOf L o).f2.length c2) (repOf L o).f2 ∧ SRow w w' (.slice A3 (repOf L o).f3.length c3) (repOf L o).f3 ∧
    (∀ g, A2.map Addr.block = some g → tg' g = 8) ∧ (∀ g, A3.map Addr.block = some g → tg' g = 8) ∧ PTab w' tg' t tb (tabOf L o) ∧ TgX w tg tg' ∧ Cl w' tg' ∧ OnT w w' tg t
theorem does_tag {w : World} {tg : Nat → Nat} {t tb : Nat} {L : List (Int × ByteArray)} (h : PTab w tg t tb L) (hr : (L.map (·.1)).Pairwise (· < ·)) (hlen : L.length ≤ 16777216) (o : POp) :
    Calls Try.prog 32 #[.pointer (some ⟨tb, 0, none⟩), .agg #[.int .i64 o.f0, .int .i64 o.f1, .string o.f2]] w fun e w' => DoesT w w' tg t tb L o e := by
  obtain ⟨lab, ha, ht⟩ := h
  refine (does_walk ha hr hlen o).mono fun e w' ⟨A2, c2, A3, c3, lab', he, k2, k3, hT, hx, hf⟩ => ?_
  have hold : ∀ b, lab' b ≠ none → b < w'.heap.size := by obtain ⟨bm, f, cs, q⟩ := hT; exact q.old
  refine ⟨A2, c2, A3, c3, fun b => if b < w.heap.size then tg b else if (lab' b).isSome = true then t else if b < w'.heap.size then 8 else 0, he, k2, k3, fun g hg => ?_, fun g hg => ?_, ⟨lab', hT, fun b hb => ?_⟩, fun b hb => if_pos hb, fun b hb => ?_, hx.only.mono fun b _ q => ht b q⟩
  · have h1 := k2.lt g (by rw [own_map]; exact hg)
    have h2 : lab' g = none := Classical.byContradiction fun q => (hf g q).1 hg
    simp only
    rw [if_neg (by omega), if_neg (by rw [h2]; simp), if_pos h1.2]
  · have h1 := k3.lt g (by rw [own_map]; exact hg)
    have h2 : lab' g = none := Classical.byContradiction fun q => (hf g q).2 hg
    simp only
    rw [if_neg (by omega), if_neg (by rw [h2]; simp), if_pos h1.2]
  · by_cases q : b < w.heap.size
    · simp only [if_pos q]
      exact (hx.new b hb).elim (ht b) fun r => by omega
    · simp only [if_neg q]
      rw [if_pos (by cases r : lab' b with | none => exact absurd r hb | some _ => rfl)]
  · have h1 := hx.only.size
    have h2 : lab' b = none := Classical.byContradiction fun q => by have := hold b q; omega
    simp only
    rw [if_neg (by omega), if_neg (by rw [h2]; simp), if_neg (by omega)]
/-- the document's Do, with tags -/
def RDoT (w w' : World) (tg : Nat → Nat) (t rt : Nat) (L : List (Int × ByteArray)) (o : POp) (e : Ending) : Prop :=
  ∃ A2 c2 A3 c3 tg', e = .returned (repV (repOf L o) A2 c2 A3 c3) ∧ RepIn w' (repOf L o) A2 c2 A3 c3 ∧ RTb w' tg' t rt (tabOf L o) ∧ TgX w tg tg' ∧ Cl w' tg' ∧ OnT w w' tg t
theorem rdo_tag {w : World} {tg : Nat → Nat} {t rt : Nat} {L : List (Int × ByteArray)} (h : RTb w tg t rt L) (hr : (L.map (·.1)).Pairwise (· < ·)) (hsm : L.length ≤ 16777216) (o : POp) (hok : OpOk o) :
    Calls Try.prog 28 #[.pointer (some ⟨rt, 0, none⟩), .agg #[.int .i64 o.f0, .int .i64 o.f1, .string o.f2]] w fun e w' => RDoT w w' tg t rt L o e := by
  obtain ⟨base, vk, vv, ha, hb, ht⟩ := h
  refine (rdo ha (rising_of hr) (by simp; omega) hb o).mono fun e w' ⟨K', V', vk', vv', r, A2, c2, A3, c3, hd, he, l2, g2, l3, g3, hT, _, ho, hn⟩ => ?_
  obtain ⟨rfl, rfl, rfl⟩ := do_pairs hr hok hd
  refine ⟨A2, c2, A3, c3, fun b => if b < w.heap.size then tg b else if b < w'.heap.size then t else 0, he, ⟨l2, g2, l3, g3⟩, ⟨base, vk', vv', hT, Nat.le_trans hb ho.size, fun b q => ?_⟩, fun b hb => if_pos hb, fun b hb => ?_, ho.mono fun b _ q => ht b q⟩
  · by_cases q1 : b < w.heap.size
    · simp only [if_pos q1]
      exact (hn b q).elim (ht b) fun r => by omega
    · simp only [if_neg q1]
      rw [if_pos (hT.lt q)]
  · have h1 := ho.size
    simp only
    rw [if_neg (by omega), if_neg (by omega)]
/-- the document's Snapshot, with tags -/
def RSnT (w w' : World) (tg : Nat → Nat) (t rt : Nat) (L : List (Int × ByteArray)) (e : Ending) : Prop :=
  ∃ A2 c2 A3 c3 tg', e = .returned (.agg #[.bool true, .string ⟨#[]⟩, .slice A2 L.length c2, .slice A3 L.length c3]) ∧ KRow w w' (.slice A2 L.length c2) (keysL L) ∧ SRow w w' (.slice A3 L.length c3) (valsL L) ∧
    (∀ g, A2.map Addr.block = some g → tg' g = 9) ∧ (∀ g, A3.map Addr.block = some g → tg' g = 9) ∧ RTb w' tg' t rt L ∧ TgX w tg tg' ∧ Cl w' tg' ∧ Fresh w w'
theorem rsnap_tag {w : World} {tg : Nat → Nat} {t rt : Nat} {L : List (Int × ByteArray)} (h : RTb w tg t rt L) (o : POp) (h1 : o.f0 ≠ 1) (h2 : o.f0 ≠ 2) :
    Calls Try.prog 28 #[.pointer (some ⟨rt, 0, none⟩), .agg #[.int .i64 o.f0, .int .i64 o.f1, .string o.f2]] w fun e w' => RSnT w w' tg t rt L e := by
  obtain ⟨base, vk, vv, ha, hb, ht⟩ := h
  refine (rdo_snaps ha hb o h1 h2).mono fun e w' ⟨A2, c2, A3, c3, he, k2, k3, hT, hf⟩ => ?_
  refine ⟨A2, c2, A3, c3, fun b => if b < w.heap.size then tg b else if b < w'.heap.size then 9 else 0, he, k2, k3, fun g hg => ?_, fun g hg => ?_, ⟨base, vk, vv, hT, Nat.le_trans hb hf.size, fun b q => ?_⟩, fun b hb => if_pos hb, fun b hb => ?_, hf⟩
  · have h1 := k2.lt g (by rw [own_map]; exact hg)
    simp only
    rw [if_neg (by omega), if_pos h1.2]
  · have h1 := k3.lt g (by rw [own_map]; exact hg)
    simp only
    rw [if_neg (by omega), if_pos h1.2]
  · simp only
    rw [if_pos (ha.lt q)]
    exact ht b q
  · have h1 := hf.size
    simp only
    rw [if_neg (by omega), if_neg (by omega)]
/-! #### what is kept -/
/-- an answer, and where its lists lie -/
structure It where
  r : PRep
  k : Value
  v : Value
def itC (x : It) : List Value := [.bool x.r.f0, .string x.r.f1, x.k, x.v]
/-- the rows of answers, of tag t -/
structure KR (t : Nat) (w : World) (tg : Nat → Nat) (F : List It) : Prop where
  fk : ∀ x ∈ F, w.ownsRow 0 3 1 x.k x.r.f2.length (intsV x.r.f2)
  fv : ∀ x ∈ F, w.ownsRow 0 9 1 x.v x.r.f3.length (strsV x.r.f3)
  tk : ∀ x ∈ F, ∀ g, x.k.ownBlock = some g → tg g = t
  tv : ∀ x ∈ F, ∀ g, x.v.ownBlock = some g → tg g = t
/-- and apart from one another -/
structure KA (F : List It) : Prop where
  ak : F.Pairwise fun x y => ∀ g, x.k.ownBlock = some g → y.k.ownBlock ≠ some g
  av : F.Pairwise fun x y => ∀ g, x.v.ownBlock = some g → y.v.ownBlock ≠ some g
section
variable {w w' : World} {tg tg' : Nat → Nat} {t : Nat} {F : List It} {S : Nat → Prop}
theorem KR.keep (h : KR t w tg F) (ho : Only w w' S) (hx : TgX w tg tg') (hs : ∀ b, tg b = t → ¬ S b) : KR t w' tg' F :=
  ⟨fun x q => ho.row (h.fk x q) fun g hg => hs g (h.tk x q g hg), fun x q => ho.row (h.fv x q) fun g hg => hs g (h.tv x q g hg),
   fun x q g hg => (hx g (own_lt (h.fk x q) hg)).trans (h.tk x q g hg), fun x q g hg => (hx g (own_lt (h.fv x q) hg)).trans (h.tv x q g hg)⟩
theorem KR.fresh (h : KR t w tg F) (ho : Fresh w w') : KR t w' tg F := h.keep ho (TgX.refl _ _) fun _ _ q => q
theorem KR.far {u : Nat} (h : KR t w tg F) (ho : OnT w w' tg u) (hx : TgX w tg tg') (hu : t ≠ u) : KR t w' tg' F := h.keep ho hx fun _ q q2 => hu (q.symm.trans q2)
theorem KR.add (h : KR t w tg F) {x : It} (hk : w.ownsRow 0 3 1 x.k x.r.f2.length (intsV x.r.f2)) (hv : w.ownsRow 0 9 1 x.v x.r.f3.length (strsV x.r.f3))
    (tk : ∀ g, x.k.ownBlock = some g → tg g = t) (tv : ∀ g, x.v.ownBlock = some g → tg g = t) : KR t w tg (F ++ [x]) := by
  have hm : ∀ y ∈ F ++ [x], y ∈ F ∨ y = x := fun y q => by simpa using q
  exact ⟨fun y q => (hm y q).elim (h.fk y) fun e => by rw [e]; exact hk, fun y q => (hm y q).elim (h.fv y) fun e => by rw [e]; exact hv, fun y q => (hm y q).elim (h.tk y) fun e => by rw [e]; exact tk, fun y q => (hm y q).elim (h.tv y) fun e => by rw [e]; exact tv⟩
theorem KA.add (h : KA F) {x : It} (hk : ∀ y ∈ F, ∀ g, y.k.ownBlock = some g → x.k.ownBlock ≠ some g) (hv : ∀ y ∈ F, ∀ g, y.v.ownBlock = some g → x.v.ownBlock ≠ some g) : KA (F ++ [x]) := by
  refine ⟨List.pairwise_append.2 ⟨h.ak, List.pairwise_singleton _ _, fun a ha b hb => ?_⟩, List.pairwise_append.2 ⟨h.av, List.pairwise_singleton _ _, fun a ha b hb => ?_⟩⟩
  · rw [List.mem_singleton.1 hb]; exact hk a ha
  · rw [List.mem_singleton.1 hb]; exact hv a ha
theorem KR.nil (t : Nat) (w : World) (tg : Nat → Nat) : KR t w tg [] := ⟨fun _ q => (by cases q), fun _ q => (by cases q), fun _ q => (by cases q), fun _ q => (by cases q)⟩
theorem KA.nil : KA [] := ⟨List.Pairwise.nil, List.Pairwise.nil⟩
/-- one more answer, whose rows were made since -/
theorem kept_add {u : Nat} (h : KR 8 w tg F) (ha : KA F) (ho : OnT w w' tg u) (hx : TgX w tg tg') (hu : 8 ≠ u) {x : It} (hk : KRow w w' x.k x.r.f2) (hv : SRow w w' x.v x.r.f3)
    (tk : ∀ g, x.k.ownBlock = some g → tg' g = 8) (tv : ∀ g, x.v.ownBlock = some g → tg' g = 8) : KR 8 w' tg' (F ++ [x]) ∧ KA (F ++ [x]) := by
  refine ⟨(h.far ho hx hu).add (rown_lower hk (Nat.zero_le _)) (rown_lower hv (Nat.zero_le _)) tk tv, ha.add (fun y hy g hg q => ?_) fun y hy g hg q => ?_⟩
  · have h1 := own_lt (h.fk y hy) hg
    have h2 := (hk.lt g q).1
    omega
  · have h1 := own_lt (h.fv y hy) hg
    have h2 := (hv.lt g q).1
    omega
end
/-- Kept, as it lies -/
structure KB (w : World) (tg : Nat → Nat) (kb : Nat) (sum : Int) (vL vW : Value) (F W : List It) : Prop where
  blk : w.heap[kb]? = some (.cells #[vL, vW, .int .i64 sum] 70 (0, 0))
  rowL : w.ownsRow 0 50 4 vL F.length (F.flatMap itC)
  rowW : w.ownsRow 0 50 4 vW W.length (W.flatMap itC)
  tk : tg kb = 5
  tL : ∀ g, vL.ownBlock = some g → tg g = 6
  tW : ∀ g, vW.ownBlock = some g → tg g = 7
section
variable {w w1 w' : World} {tg tg' : Nat → Nat} {kb : Nat} {sum : Int} {vL vW : Value} {F W : List It} {S : Nat → Prop}
theorem KB.keep (h : KB w tg kb sum vL vW F W) (ho : Only w w' S) (hx : TgX w tg tg') (hs : ∀ b, tg b = 5 ∨ tg b = 6 ∨ tg b = 7 → ¬ S b) : KB w' tg' kb sum vL vW F W :=
  ⟨ho.blk h.blk (hs _ (.inl h.tk)), ho.row h.rowL fun g q => hs g (.inr (.inl (h.tL g q))), ho.row h.rowW fun g q => hs g (.inr (.inr (h.tW g q))), (hx _ (blk_lt h.blk)).trans h.tk,
   fun g q => (hx g (own_lt h.rowL q)).trans (h.tL g q), fun g q => (hx g (own_lt h.rowW q)).trans (h.tW g q)⟩
theorem KB.fresh (h : KB w tg kb sum vL vW F W) (ho : Fresh w w') : KB w' tg kb sum vL vW F W := h.keep ho (TgX.refl _ _) fun _ _ q => q
theorem KB.far {u : Nat} (h : KB w tg kb sum vL vW F W) (ho : OnT w w' tg u) (hx : TgX w tg tg') (hu : u < 5 ∨ 7 < u) : KB w' tg' kb sum vL vW F W := h.keep ho hx fun b q q2 => by
  have q2 : tg b = u := q2
  omega
/-- the tags behind a row's growth -/
def tgA (w : World) (tg : Nat → Nat) (A : Option Addr) (t : Nat) (b : Nat) : Nat := if b < w.heap.size then tg b else if A.map Addr.block = some b then t else 0
theorem KB.growL (h : KB w tg kb sum vL vW F W) {X : List It} {A : Option Addr} {C : Nat} (hown : w1.ownsRow 0 50 4 (.slice A (F.length + X.length) C) (F.length + X.length) (F.flatMap itC ++ X.flatMap itC)) (hg : w.grownBy w1 vL.ownBlock)
    (hat : A.map Addr.block = vL.ownBlock ∨ ∃ m, w.heap.size ≤ m ∧ A.map Addr.block = some m) :
    KB (w1.setCell ⟨kb, 0, none⟩ (.slice A (F.length + X.length) C)) (tgA w tg A 6) kb sum (.slice A (F.length + X.length) C) vW (F ++ X) W ∧ TgX w tg (tgA w tg A 6) ∧ Cl (w1.setCell ⟨kb, 0, none⟩ (.slice A (F.length + X.length) C)) (tgA w tg A 6) ∧
      Only w (w1.setCell ⟨kb, 0, none⟩ (.slice A (F.length + X.length) C)) fun b => tg b = 5 ∨ tg b = 6 := by
  have hkl : some kb ≠ vL.ownBlock := fun e => by have := h.tL kb e.symm; have := h.tk; omega
  have hkw : ∀ g, vW.ownBlock = some g → g ≠ kb := fun g q e => by subst e; have := h.tW g q; have := h.tk; omega
  have hlw : ∀ g, vW.ownBlock = some g → some g ≠ vL.ownBlock := fun g q e => by have := h.tL g e.symm; have := h.tW g q; omega
  have hb1 := blk_grown h.blk hg hkl
  have hA : ∀ g, A.map Addr.block = some g → g < w1.heap.size ∧ (g < w.heap.size → tg g = 6) := fun g q => by
    refine ⟨(hown.lt g (by rw [own_map]; exact q)).2, fun q2 => ?_⟩
    rcases hat with r | ⟨m, hm, r⟩
    · exact h.tL g (by rw [← r]; exact q)
    · rw [r] at q
      injection q with q
      omega
  have hsz : (w1.setCell ⟨kb, 0, none⟩ (.slice A (F.length + X.length) C)).heap.size = w1.heap.size := by simp [World.setCell]
  have hx : TgX w tg (tgA w tg A 6) := fun b hb => if_pos hb
  refine ⟨⟨blk_set hb1 0 _, ?_, ?_, (hx _ (blk_lt h.blk)).trans h.tk, fun g q => ?_, fun g q => (hx g (own_lt h.rowW q)).trans (h.tW g q)⟩, hx, fun b hb => ?_, ?_⟩
  · rw [List.length_append, List.flatMap_append]
    refine ownsRow_setCell_other hown (fun e => ?_) _
    rw [own_map] at e
    have := (hA kb e).2 (blk_lt h.blk)
    have := h.tk
    omega
  · have ho : Only w (w1.setCell ⟨kb, 0, none⟩ (.slice A (F.length + X.length) C)) fun b => b = kb ∨ vL.ownBlock = some b := ((Only.refl w _).grown hg fun g q => .inl (.inr q)).setCell (p := ⟨kb, 0, none⟩) (.inl (.inl rfl)) _
    exact ho.row h.rowW fun g q e => e.elim (hkw g q) fun e => hlw g q e.symm
  · rw [own_map] at q
    by_cases q2 : g < w.heap.size
    · rw [hx g q2]; exact (hA g q).2 q2
    · unfold tgA
      rw [if_neg q2, if_pos q]
  · rw [hsz] at hb
    unfold tgA
    have := hg.size
    rw [if_neg (by omega), if_neg (fun q => by have := (hA b q).1; omega)]
  · exact ((Only.refl w _).grown hg fun g q => .inl (.inr (h.tL g q))).setCell (p := ⟨kb, 0, none⟩) (.inl (.inl h.tk)) _
theorem KB.growW (h : KB w tg kb sum vL vW F W) {X : List It} {A : Option Addr} {C : Nat} (hown : w1.ownsRow 0 50 4 (.slice A (W.length + X.length) C) (W.length + X.length) (W.flatMap itC ++ X.flatMap itC)) (hg : w.grownBy w1 vW.ownBlock)
    (hat : A.map Addr.block = vW.ownBlock ∨ ∃ m, w.heap.size ≤ m ∧ A.map Addr.block = some m) :
    KB (w1.setCell ⟨kb, 1, none⟩ (.slice A (W.length + X.length) C)) (tgA w tg A 7) kb sum vL (.slice A (W.length + X.length) C) F (W ++ X) ∧ TgX w tg (tgA w tg A 7) ∧ Cl (w1.setCell ⟨kb, 1, none⟩ (.slice A (W.length + X.length) C)) (tgA w tg A 7) ∧
      Only w (w1.setCell ⟨kb, 1, none⟩ (.slice A (W.length + X.length) C)) fun b => tg b = 5 ∨ tg b = 7 := by
  have hkl : some kb ≠ vW.ownBlock := fun e => by have := h.tW kb e.symm; have := h.tk; omega
  have hkw : ∀ g, vL.ownBlock = some g → g ≠ kb := fun g q e => by subst e; have := h.tL g q; have := h.tk; omega
  have hlw : ∀ g, vL.ownBlock = some g → some g ≠ vW.ownBlock := fun g q e => by have := h.tW g e.symm; have := h.tL g q; omega
  have hb1 := blk_grown h.blk hg hkl
  have hA : ∀ g, A.map Addr.block = some g → g < w1.heap.size ∧ (g < w.heap.size → tg g = 7) := fun g q => by
    refine ⟨(hown.lt g (by rw [own_map]; exact q)).2, fun q2 => ?_⟩
    rcases hat with r | ⟨m, hm, r⟩
    · exact h.tW g (by rw [← r]; exact q)
    · rw [r] at q
      injection q with q
      omega
  have hsz : (w1.setCell ⟨kb, 1, none⟩ (.slice A (W.length + X.length) C)).heap.size = w1.heap.size := by simp [World.setCell]
  have hx : TgX w tg (tgA w tg A 7) := fun b hb => if_pos hb
  refine ⟨⟨blk_set hb1 1 _, ?_, ?_, (hx _ (blk_lt h.blk)).trans h.tk, fun g q => (hx g (own_lt h.rowL q)).trans (h.tL g q), fun g q => ?_⟩, hx, fun b hb => ?_, ?_⟩
  · have ho : Only w (w1.setCell ⟨kb, 1, none⟩ (.slice A (W.length + X.length) C)) fun b => b = kb ∨ vW.ownBlock = some b := ((Only.refl w _).grown hg fun g q => .inl (.inr q)).setCell (p := ⟨kb, 1, none⟩) (.inl (.inl rfl)) _
    exact ho.row h.rowL fun g q e => e.elim (hkw g q) fun e => hlw g q e.symm
  · rw [List.length_append, List.flatMap_append]
    refine ownsRow_setCell_other hown (fun e => ?_) _
    rw [own_map] at e
    have := (hA kb e).2 (blk_lt h.blk)
    have := h.tk
    omega
  · rw [own_map] at q
    by_cases q2 : g < w.heap.size
    · rw [hx g q2]; exact (hA g q).2 q2
    · unfold tgA
      rw [if_neg q2, if_pos q]
  · rw [hsz] at hb
    unfold tgA
    have := hg.size
    rw [if_neg (by omega), if_neg (fun q => by have := (hA b q).1; omega)]
  · exact ((Only.refl w _).grown hg fun g q => .inl (.inr (h.tW g q))).setCell (p := ⟨kb, 1, none⟩) (.inl (.inl h.tk)) _
theorem KB.setS (h : KB w tg kb sum vL vW F W) (s : Int) : KB (w.setCell ⟨kb, 2, none⟩ (.int .i64 s)) tg kb s vL vW F W ∧ OnT w (w.setCell ⟨kb, 2, none⟩ (.int .i64 s)) tg 5 := by
  have ho : OnT w (w.setCell ⟨kb, 2, none⟩ (.int .i64 s)) tg 5 := (Only.refl w _).setCell (p := ⟨kb, 2, none⟩) (.inl h.tk) _
  refine ⟨⟨blk_set h.blk 2 _, ho.row h.rowL fun g q e => ?_, ho.row h.rowW fun g q e => ?_, h.tk, h.tL, h.tW⟩, ho⟩
  · have := h.tL g q
    have e : tg g = 5 := e
    omega
  · have := h.tW g q
    have e : tg g = 5 := e
    omega
end
theorem flat4 (F : List It) : ∀ {k j : Nat} {x : It}, F[k]? = some x → j < 4 → (F.flatMap itC)[k * 4 + j]? = (itC x)[j]? := by
  induction F with
  | nil => intro k j x h; simp at h
  | cons a F ih =>
    intro k j x h hj
    rw [List.flatMap_cons]
    cases k with
    | zero =>
      obtain rfl : a = x := by simpa using h
      rw [List.getElem?_append_left (by simp [itC]; omega)]
      simp
    | succ k =>
      have hl : (itC a).length = 4 := rfl
      rw [List.getElem?_append_right (by omega), hl, show (k + 1) * 4 + j - 4 = k * 4 + j by omega]
      exact ih (by simpa using h) hj
/-- what asks works on: two tables of the program's, two of the document's, Kept; the world and the tags ahead of it -/
structure AC where
  t1 : Nat
  t2 : Nat
  t3 : Nat
  t4 : Nat
  ta : Nat
  tb : Nat
  ra : Nat
  rb : Nat
  La : List (Int × ByteArray)
  Lb : List (Int × ByteArray)
  kb : Nat
  w0 : World
  tg0 : Nat → Nat
def AC.swap (c : AC) : AC := ⟨c.t2, c.t1, c.t4, c.t3, c.tb, c.ta, c.rb, c.ra, c.Lb, c.La, c.kb, c.w0, c.tg0⟩
/-- the tags are apart; the lists rise -/
structure AC.Ok (c : AC) : Prop where
  tags : (c.t1 = 1 ∧ c.t2 = 2 ∧ c.t3 = 3 ∧ c.t4 = 4) ∨ (c.t1 = 2 ∧ c.t2 = 1 ∧ c.t3 = 4 ∧ c.t4 = 3)
  ra : (c.La.map (·.1)).Pairwise (· < ·)
  rb : (c.Lb.map (·.1)).Pairwise (· < ·)
  la : c.La.length ≤ 1048576
  lb : c.Lb.length ≤ 1048576
theorem AC.Ok.swap {c : AC} (h : c.Ok) : c.swap.Ok := ⟨by
  show (c.t2 = 1 ∧ c.t1 = 2 ∧ c.t4 = 3 ∧ c.t3 = 4) ∨ (c.t2 = 2 ∧ c.t1 = 1 ∧ c.t4 = 4 ∧ c.t3 = 3)
  have := h.tags
  omega, h.rb, h.ra, h.lb, h.la⟩
/-- the state; N: the answers so far, M: what they should be; Ls: blocks of asks itself -/
structure ASt (c : AC) (w : World) (tg : Nat → Nat) (sum : Int) (vL vW : Value) (F W N M : List It) (Ls : List (Nat × Obj)) : Prop where
  cl : Cl w tg
  pa : PTab w tg c.t1 c.ta c.La
  pb : PTab w tg c.t2 c.tb c.Lb
  qa : RTb w tg c.t3 c.ra c.La
  qb : RTb w tg c.t4 c.rb c.Lb
  kb : KB w tg c.kb sum vL vW F W
  rn : KR 8 w tg N
  an : KA N
  lo : ∀ x ∈ N, (∀ g, x.k.ownBlock = some g → c.w0.heap.size ≤ g) ∧ ∀ g, x.v.ownBlock = some g → c.w0.heap.size ≤ g
  rm : KR 9 w tg M
  old : Only c.w0 w fun b => 0 < c.tg0 b ∧ c.tg0 b < 8
  ext : TgX c.w0 c.tg0 tg
  loc : ∀ p ∈ Ls, w.heap[p.1]? = some p.2 ∧ tg p.1 = 0
section
variable {c : AC} {w w' : World} {tg tg' : Nat → Nat} {sum : Int} {vL vW : Value} {F W N M : List It} {Ls : List (Nat × Obj)}
theorem ASt.swap (h : ASt c w tg sum vL vW F W N M Ls) : ASt c.swap w tg sum vL vW F W N M Ls := ⟨h.cl, h.pb, h.pa, h.qb, h.qa, h.kb, h.rn, h.an, h.lo, h.rm, h.old, h.ext, h.loc⟩
theorem ASt.unswap (h : ASt c.swap w tg sum vL vW F W N M Ls) : ASt c w tg sum vL vW F W N M Ls := ⟨h.cl, h.pb, h.pa, h.qb, h.qa, h.kb, h.rn, h.an, h.lo, h.rm, h.old, h.ext, h.loc⟩
/-- what a step writes that is tagged t, in the first world's words -/
theorem ASt.old_of (h : ASt c w tg sum vL vW F W N M Ls) {S : Nat → Prop} (ho : Only w w' S) (hs : ∀ b, S b → b < w.heap.size → 0 < tg b ∧ tg b < 8) : Only c.w0 w' fun b => 0 < c.tg0 b ∧ c.tg0 b < 8 := by
  refine h.old.trans (ho.mono (S' := fun b => c.w0.heap.size ≤ b ∨ 0 < c.tg0 b ∧ c.tg0 b < 8) fun b hb q => ?_) fun b q => q.symm.imp id id
  by_cases r : c.w0.heap.size ≤ b
  · exact .inl r
  · have := hs b q hb
    rw [h.ext b (by omega)] at this
    exact .inr this
/-- a new block of asks' own -/
theorem ASt.alloc (h : ASt c w tg sum vL vW F W N M Ls) (o : Obj) : ASt c (w.alloc o) tg sum vL vW F W N M ((w.heap.size, o) :: Ls) := by
  have hf : Fresh w (w.alloc o) := (Only.refl _ _).alloc _
  refine ⟨h.cl.mono hf.size, h.pa.fresh hf, h.pb.fresh hf, h.qa.fresh hf, h.qb.fresh hf, h.kb.fresh hf, h.rn.fresh hf, h.an, h.lo, h.rm.fresh hf, h.old_of hf fun _ q _ => q.elim, h.ext, fun p q => ?_⟩
  rcases List.mem_cons.1 q with q | q
  · subst q
    exact ⟨new_blk o, h.cl _ (Nat.le_refl _)⟩
  · obtain ⟨h1, h2⟩ := h.loc p q
    exact ⟨blk_alloc h1 o, h2⟩
theorem ASt.fresh (h : ASt c w tg sum vL vW F W N M Ls) (hf : Fresh w w') : ASt c w' tg sum vL vW F W N M Ls :=
  ⟨h.cl.mono hf.size, h.pa.fresh hf, h.pb.fresh hf, h.qa.fresh hf, h.qb.fresh hf, h.kb.fresh hf, h.rn.fresh hf, h.an, h.lo, h.rm.fresh hf, h.old_of hf fun _ q _ => q.elim, h.ext, fun p q => ⟨hf.blk (h.loc p q).1 fun q => q, (h.loc p q).2⟩⟩
abbrev snOp : POp := ⟨3, 0, ⟨#[]⟩⟩
abbrev snR (L : List (Int × ByteArray)) : PRep := ⟨true, ⟨#[]⟩, keysL L, valsL L⟩
theorem repOf_sn (L : List (Int × ByteArray)) : repOf L snOp = snR L := rfl
theorem tabOf_sn (L : List (Int × ByteArray)) : tabOf L snOp = L := rfl
abbrev snV (L : List (Int × ByteArray)) (A2 : Option Addr) (c2 : Nat) (A3 : Option Addr) (c3 : Nat) : Value := .agg #[.bool true, .string ⟨#[]⟩, .slice A2 L.length c2, .slice A3 L.length c3]
abbrev snI (L : List (Int × ByteArray)) (A2 : Option Addr) (c2 : Nat) (A3 : Option Addr) (c3 : Nat) : It := ⟨snR L, .slice A2 L.length c2, .slice A3 L.length c3⟩
/-- a Snapshot of the first table more -/
def DoesA (c : AC) (sum : Int) (vL vW : Value) (F W N M : List It) (Ls : List (Nat × Obj)) (L : List (Int × ByteArray)) (e : Ending) (w' : World) : Prop :=
  ∃ A2 c2 A3 c3 tg', e = .returned (snV L A2 c2 A3 c3) ∧ ASt c w' tg' sum vL vW F W (N ++ [snI L A2 c2 A3 c3]) M Ls
def DoA (c : AC) (sum : Int) (vL vW : Value) (F W N M : List It) (Ls : List (Nat × Obj)) (L : List (Int × ByteArray)) (e : Ending) (w' : World) : Prop :=
  ∃ A2 c2 A3 c3 tg', e = .returned (snV L A2 c2 A3 c3) ∧ ASt c w' tg' sum vL vW F W N (M ++ [snI L A2 c2 A3 c3]) Ls
theorem ASt.does (h : ASt c w tg sum vL vW F W N M Ls) (hok : c.Ok) :
    Calls Try.prog 32 #[.pointer (some ⟨c.ta, 0, none⟩), .agg #[.int .i64 3, .int .i64 0, .string ⟨#[]⟩]] w fun e w' => DoesA c sum vL vW F W N M Ls c.La e w' := by
  have hla := hok.la
  have htg := hok.tags
  refine (does_tag h.pa hok.ra (by omega) snOp).mono fun e w' ⟨A2, c2, A3, c3, tg', he, k2, k3, t2, t3, hT, hx, hcl, ho⟩ => ?_
  rw [repOf_sn] at he k2 k3
  rw [tabOf_sn] at hT
  have hl2 : (snR c.La).f2.length = c.La.length := by simp
  have hl3 : (snR c.La).f3.length = c.La.length := by simp
  rw [hl2] at k2
  rw [hl3] at k3
  have hnew := kept_add h.rn h.an ho hx (by omega) (x := snI c.La A2 c2 A3 c3) (by simpa [KRow] using k2) (by simpa [SRow] using k3) (fun g q => t2 g (by rw [← own_map]; exact q)) fun g q => t3 g (by rw [← own_map]; exact q)
  have hsz := h.old.size
  refine ⟨A2, c2, A3, c3, tg', by rw [he]; simp [repV, snV], hcl, hT, h.pb.far ho hx (by omega), h.qa.far ho hx (by omega), h.qb.far ho hx (by omega), h.kb.far ho hx (by omega), hnew.1, hnew.2, fun x q => ?_, h.rm.far ho hx (by omega), h.old_of ho fun b q _ => ?_, h.ext.trans h.old.size hx, fun p q => ?_⟩
  · rcases List.mem_append.1 q with q | q
    · exact h.lo x q
    · obtain rfl := List.mem_singleton.1 q
      exact ⟨fun g q => by have := (k2.lt g q).1; omega, fun g q => by have := (k3.lt g q).1; omega⟩
  · have q : tg b = c.t1 := q
    omega
  · obtain ⟨h1, h2⟩ := h.loc p q
    exact ⟨OnT.blk ho h1 h2 (by omega), (hx _ (blk_lt h1)).trans h2⟩
theorem ASt.doesB (h : ASt c w tg sum vL vW F W N M Ls) (hok : c.Ok) :
    Calls Try.prog 32 #[.pointer (some ⟨c.tb, 0, none⟩), .agg #[.int .i64 3, .int .i64 0, .string ⟨#[]⟩]] w fun e w' => DoesA c sum vL vW F W N M Ls c.Lb e w' :=
  (h.swap.does hok.swap).mono fun _ _ ⟨A2, c2, A3, c3, tg', he, hs⟩ => ⟨A2, c2, A3, c3, tg', he, hs.unswap⟩
theorem ASt.doA (h : ASt c w tg sum vL vW F W N M Ls) (hok : c.Ok) :
    Calls Try.prog 28 #[.pointer (some ⟨c.ra, 0, none⟩), .agg #[.int .i64 3, .int .i64 0, .string ⟨#[]⟩]] w fun e w' => DoA c sum vL vW F W N M Ls c.La e w' := by
  have hla := hok.la
  have htg := hok.tags
  refine (rsnap_tag h.qa snOp (by decide) (by decide)).mono fun e w' ⟨A2, c2, A3, c3, tg', he, k2, k3, t2, t3, hT, hx, hcl, hf⟩ => ?_
  have hf' : ∀ t, OnT w w' tg t := fun t => fresh_onT hf
  refine ⟨A2, c2, A3, c3, tg', he, hcl, h.pa.keep hf hx fun _ _ q => q, h.pb.keep hf hx fun _ _ q => q, hT, h.qb.keep hf hx fun _ _ q => q, h.kb.keep hf hx fun _ _ q => q, h.rn.keep hf hx fun _ _ q => q, h.an, h.lo, ?_, h.old_of hf fun _ q _ => q.elim, h.ext.trans h.old.size hx, fun p q => ?_⟩
  · have k2' : w'.ownsRow w.heap.size 3 1 (.slice A2 c.La.length c2) (snR c.La).f2.length (intsV (snR c.La).f2) := by simpa [KRow] using k2
    have k3' : w'.ownsRow w.heap.size 9 1 (.slice A3 c.La.length c3) (snR c.La).f3.length (strsV (snR c.La).f3) := by simpa [SRow] using k3
    exact (h.rm.keep hf hx fun _ _ q => q).add (x := snI c.La A2 c2 A3 c3) (rown_lower k2' (Nat.zero_le _)) (rown_lower k3' (Nat.zero_le _)) (fun g q => t2 g (by rw [← own_map]; exact q)) fun g q => t3 g (by rw [← own_map]; exact q)
  · obtain ⟨h1, h2⟩ := h.loc p q
    exact ⟨hf.blk h1 fun q => q, (hx _ (blk_lt h1)).trans h2⟩
theorem ASt.doB (h : ASt c w tg sum vL vW F W N M Ls) (hok : c.Ok) :
    Calls Try.prog 28 #[.pointer (some ⟨c.rb, 0, none⟩), .agg #[.int .i64 3, .int .i64 0, .string ⟨#[]⟩]] w fun e w' => DoA c sum vL vW F W N M Ls c.Lb e w' :=
  (h.swap.doA hok.swap).mono fun _ _ ⟨A2, c2, A3, c3, tg', he, hs⟩ => ⟨A2, c2, A3, c3, tg', he, hs.unswap⟩
/-- the answers' list grows -/
theorem ASt.growL (h : ASt c w tg sum vL vW F W N M Ls) {w1 : World} {X : List It} {A : Option Addr} {C : Nat} (hown : w1.ownsRow 0 50 4 (.slice A (F.length + X.length) C) (F.length + X.length) (F.flatMap itC ++ X.flatMap itC)) (hg : w.grownBy w1 vL.ownBlock)
    (hat : A.map Addr.block = vL.ownBlock ∨ ∃ m, w.heap.size ≤ m ∧ A.map Addr.block = some m) (hok : c.Ok) :
    ASt c (w1.setCell ⟨c.kb, 0, none⟩ (.slice A (F.length + X.length) C)) (tgA w tg A 6) sum (.slice A (F.length + X.length) C) vW (F ++ X) W N M Ls := by
  have htg := hok.tags
  obtain ⟨hk, hx, hcl, ho⟩ := h.kb.growL hown hg hat
  refine ⟨hcl, h.pa.keep ho hx fun b q q2 => (by omega), h.pb.keep ho hx fun b q q2 => (by omega), h.qa.keep ho hx fun b q q2 => (by omega), h.qb.keep ho hx fun b q q2 => (by omega), hk, h.rn.keep ho hx fun b q q2 => (by omega), h.an, h.lo, h.rm.keep ho hx fun b q q2 => (by omega), h.old_of ho fun b q _ => (by have q : tg b = 5 ∨ tg b = 6 := q; omega), h.ext.trans h.old.size hx, fun p q => ?_⟩
  obtain ⟨h1, h2⟩ := h.loc p q
  exact ⟨ho.blk h1 fun (q : tg p.1 = 5 ∨ tg p.1 = 6) => by omega, (hx _ (blk_lt h1)).trans h2⟩
theorem ASt.growW (h : ASt c w tg sum vL vW F W N M Ls) {w1 : World} {X : List It} {A : Option Addr} {C : Nat} (hown : w1.ownsRow 0 50 4 (.slice A (W.length + X.length) C) (W.length + X.length) (W.flatMap itC ++ X.flatMap itC)) (hg : w.grownBy w1 vW.ownBlock)
    (hat : A.map Addr.block = vW.ownBlock ∨ ∃ m, w.heap.size ≤ m ∧ A.map Addr.block = some m) (hok : c.Ok) :
    ASt c (w1.setCell ⟨c.kb, 1, none⟩ (.slice A (W.length + X.length) C)) (tgA w tg A 7) sum vL (.slice A (W.length + X.length) C) F (W ++ X) N M Ls := by
  have htg := hok.tags
  obtain ⟨hk, hx, hcl, ho⟩ := h.kb.growW hown hg hat
  refine ⟨hcl, h.pa.keep ho hx fun b q q2 => (by omega), h.pb.keep ho hx fun b q q2 => (by omega), h.qa.keep ho hx fun b q q2 => (by omega), h.qb.keep ho hx fun b q q2 => (by omega), hk, h.rn.keep ho hx fun b q q2 => (by omega), h.an, h.lo, h.rm.keep ho hx fun b q q2 => (by omega), h.old_of ho fun b q _ => (by have q : tg b = 5 ∨ tg b = 7 := q; omega), h.ext.trans h.old.size hx, fun p q => ?_⟩
  obtain ⟨h1, h2⟩ := h.loc p q
  exact ⟨ho.blk h1 fun (q : tg p.1 = 5 ∨ tg p.1 = 7) => by omega, (hx _ (blk_lt h1)).trans h2⟩
theorem ASt.setSum (h : ASt c w tg sum vL vW F W N M Ls) (s : Int) (hok : c.Ok) : ASt c (w.setCell ⟨c.kb, 2, none⟩ (.int .i64 s)) tg s vL vW F W N M Ls := by
  have htg := hok.tags
  obtain ⟨hk, ho⟩ := h.kb.setS s
  have hx := TgX.refl w tg
  refine ⟨h.cl.mono ho.size, h.pa.far ho hx (by omega), h.pb.far ho hx (by omega), h.qa.far ho hx (by omega), h.qb.far ho hx (by omega), hk, h.rn.far ho hx (by omega), h.an, h.lo, h.rm.far ho hx (by omega), h.old_of ho fun b q _ => (by have q : tg b = 5 := q; omega), h.ext, fun p q => ?_⟩
  obtain ⟨h1, h2⟩ := h.loc p q
  exact ⟨OnT.blk ho h1 h2 (by omega), h2⟩
/-- what an answer's rows are read as -/
theorem KR.rep {t : Nat} {w : World} {tg : Nat → Nat} {G : List It} (h : KR t w tg G) {x : It} (hx : x ∈ G) {A2 : Option Addr} {n2 c2 : Nat} {A3 : Option Addr} {n3 c3 : Nat} (hk : x.k = .slice A2 n2 c2) (hv : x.v = .slice A3 n3 c3) : n2 = x.r.f2.length ∧ n3 = x.r.f3.length ∧ RepIn w x.r A2 c2 A3 c3 := by
  have h1 := h.fk x hx
  have h2 := h.fv x hx
  rw [hk] at h1
  rw [hv] at h2
  have e1 : n2 = x.r.f2.length := by
    obtain ⟨a, b, e⟩ := own_slice h1
    injection e
  have e2 : n3 = x.r.f3.length := by
    obtain ⟨a, b, e⟩ := own_slice h2
    injection e
  subst e1
  subst e2
  have hr1 := own_reads1 (h1 := fun _ => rfl) h1
  have hr2 := own_reads1 (h1 := fun _ => rfl) h2
  exact ⟨rfl, rfl, hr1.2, hr1.1, hr2.2, hr2.1⟩
end
/-- what asks leaves -/
def AsksPost (c : AC) (P : Prop) (sum : Int) (F W : List It) (e : Ending) (w' : World) : Prop :=
  e = .returned (.bool true) ∧ ∃ tg' sum' vL vW X Y, Cl w' tg' ∧ PTab w' tg' c.t1 c.ta c.La ∧ PTab w' tg' c.t2 c.tb c.Lb ∧ RTb w' tg' c.t3 c.ra c.La ∧ RTb w' tg' c.t4 c.rb c.Lb ∧ KB w' tg' c.kb sum' vL vW (F ++ X) (W ++ Y) ∧ X.length = 4 ∧ X.map It.r = Y.map It.r ∧
    (∀ x ∈ X, x.r.f2.length ≤ 1048576 ∧ x.r.f3.length ≤ 1048576) ∧ sum ≤ sum' ∧ sum' ≤ sum + 4194304 ∧ TgX c.w0 c.tg0 tg' ∧ Only c.w0 w' (fun b => 0 < c.tg0 b ∧ c.tg0 b < 8) ∧
    (P → KR 8 w' tg' (F ++ X) ∧ KA (F ++ X) ∧ KR 9 w' tg' (W ++ Y))
theorem ASt.post {c : AC} {P : Prop} {w' : World} {tg' : Nat → Nat} {sum sum' : Int} {vL vW : Value} {F W N M Y : List It} {Ls : List (Nat × Obj)} (h : ASt c w' tg' sum' vL vW (F ++ N) (W ++ Y) N M Ls) (hP : P → KR 8 c.w0 c.tg0 F ∧ KA F ∧ KR 9 c.w0 c.tg0 W) (hY : ∀ y ∈ Y, y ∈ M) (hN : N.length = 4) (hNY : N.map It.r = Y.map It.r)
    (hb : ∀ x ∈ N, x.r.f2.length ≤ 1048576 ∧ x.r.f3.length ≤ 1048576) (hs1 : sum ≤ sum') (hs2 : sum' ≤ sum + 4194304) : AsksPost c P sum F W (.returned (.bool true)) w' := by
  refine ⟨rfl, tg', sum', vL, vW, N, Y, h.cl, h.pa, h.pb, h.qa, h.qb, h.kb, hN, hNY, hb, hs1, hs2, h.ext, h.old, fun p => ?_⟩
  obtain ⟨h1, h2, h3⟩ := hP p
  have g1 := h1.keep h.old h.ext fun b q q2 => by omega
  have g3 := h3.keep h.old h.ext fun b q q2 => by omega
  have hm : ∀ {G1 G2 : List It} {t : Nat}, KR t w' tg' G1 → KR t w' tg' G2 → KR t w' tg' (G1 ++ G2) := fun {G1 G2 t} a b => ⟨fun x q => (List.mem_append.1 q).elim (a.fk x) (b.fk x), fun x q => (List.mem_append.1 q).elim (a.fv x) (b.fv x), fun x q => (List.mem_append.1 q).elim (a.tk x) (b.tk x), fun x q => (List.mem_append.1 q).elim (a.tv x) (b.tv x)⟩
  refine ⟨hm g1 h.rn, ⟨List.pairwise_append.2 ⟨h2.ak, h.an.ak, fun a ha b hb g q q2 => ?_⟩, List.pairwise_append.2 ⟨h2.av, h.an.av, fun a ha b hb g q q2 => ?_⟩⟩, hm g3 ⟨fun x q => h.rm.fk x (hY x q), fun x q => h.rm.fv x (hY x q), fun x q => h.rm.tk x (hY x q), fun x q => h.rm.tv x (hY x q)⟩⟩
  · have r1 := own_lt (h1.fk a ha) q
    have r2 := (h.lo b hb).1 g q2
    omega
  · have r1 := own_lt (h1.fv a ha) q
    have r2 := (h.lo b hb).2 g q2
    omega
theorem ASt.at {c : AC} {w : World} {tg : Nat → Nat} {sum : Int} {vL vW : Value} {F W N M : List It} {Ls : List (Nat × Obj)} (h : ASt c w tg sum vL vW F W N M Ls) (i : Nat) {g : Nat} {o : Obj} (hi : Ls[i]? = some (g, o)) : w.heap[g]? = some o := (h.loc (g, o) (List.mem_of_getElem? hi)).1
theorem rep_blk {w : World} {g : Nat} {x y z u : Value} {t : TypeId} (h : w.heap[g]? = some (.cells #[x, y, z, u] t (0, 0))) : w.cell? ⟨g, 0, none⟩ = some x ∧ w.cell? ⟨g, 1, none⟩ = some y ∧ w.cell? ⟨g, 2, none⟩ = some z ∧ w.cell? ⟨g, 3, none⟩ = some u ∧ g < w.heap.size := ⟨blk_cell h rfl, blk_cell h rfl, blk_cell h rfl, blk_cell h rfl, blk_lt h⟩
theorem op_blk {w : World} {g : Nat} {x y z : Value} {t : TypeId} (h : w.heap[g]? = some (.cells #[x, y, z] t (0, 0))) : w.cell? ⟨g, 0, none⟩ = some x ∧ w.cell? ⟨g, 1, none⟩ = some y ∧ w.cell? ⟨g, 2, none⟩ = some z ∧ g < w.heap.size := ⟨blk_cell h rfl, blk_cell h rfl, blk_cell h rfl, blk_lt h⟩
theorem rinfoReply : (Try.prog.info? 50).map (fun i => (i.zero, i.size, i.bytes)) = some (some (.agg #[.bool false, .string ⟨#[]⟩, .slice none 0 0, .slice none 0 0]), 4, 72) := by kernel_rfl
abbrev snO (L : List (Int × ByteArray)) (A2 : Option Addr) (c2 : Nat) (A3 : Option Addr) (c3 : Nat) : Obj := .cells #[.bool true, .string ⟨#[]⟩, .slice A2 L.length c2, .slice A3 L.length c3] 50 (0, 0)
abbrev snC (L : List (Int × ByteArray)) (A2 : Option Addr) (c2 : Nat) (A3 : Option Addr) (c3 : Nat) : List Value := [.bool true, .string ⟨#[]⟩, .slice A2 L.length c2, .slice A3 L.length c3]
theorem eq_sn {V : World} {L : List (Int × ByteArray)} {A : Option Addr} {a : Nat} {B : Option Addr} {b : Nat} {A' : Option Addr} {a' : Nat} {B' : Option Addr} {b' : Nat} (h1 : RepIn V (snR L) A a B b) (h2 : RepIn V (snR L) A' a' B' b') :
    Calls Try.prog 29 #[snV L A a B b, snV L A' a' B' b'] V fun e w' => e = .returned (.bool true) ∧ Below V.heap.size V w' := by
  have h := eqreply_calls V (snR L) h1 h2
  have e : ∀ A a B b, repV (snR L) A a B b = snV L A a B b := fun A a B b => by simp [repV, snV]
  rw [e, e] at h
  exact h
set_option maxRecDepth 200000 in
set_option maxHeartbeats 4000000 in
theorem asks_walk (c : AC) (hok : c.Ok) {sum : Int} {vL vW : Value} {F W : List It} (P : Prop) (h : ASt c c.w0 c.tg0 sum vL vW F W [] [] []) (hP : P → KR 8 c.w0 c.tg0 F ∧ KA F ∧ KR 9 c.w0 c.tg0 W) (hs0 : 0 ≤ sum) (hs1 : sum ≤ 1000000000000) (hF : F.length ≤ 8388608) (hW : W.length ≤ 8388608) :
    Calls Try.prog 31 #[.pointer (some ⟨c.kb, 0, none⟩), .pointer (some ⟨c.ta, 0, none⟩), .pointer (some ⟨c.tb, 0, none⟩), .pointer (some ⟨c.ra, 0, none⟩), .pointer (some ⟨c.rb, 0, none⟩)] c.w0 fun e w' => AsksPost c P sum F W e w' := by
  have hu := Try.underlying23
  have hu2 := Try.underlying50
  obtain ⟨AL, CL, rfl⟩ := own_slice h.kb.rowL
  obtain ⟨AW, CW, rfl⟩ := own_slice h.kb.rowW
  obtain ⟨im, hz0', hz1', hz2', hz3'⟩ := info_parts rinfoReply
  have HIM := Lib.hid (And.intro hz0' (And.intro hz1' (And.intro hz2' hz3')))
  clear hz0' hz1' hz2' hz3'
  have H0 := Lib.hid (h.alloc (.cells #[.int .i64 3, .int .i64 0, .string ⟨#[]⟩] 23))
  have HP := Lib.hid hP
  have HOK := Lib.hid hok
  have HN := Lib.hid (And.intro hs0 (And.intro hs1 (And.intro hF hW)))
  clear h hP hs0 hs1 hF hW hok
  have hD := H0.out.does HOK.out
  go_enter Try.func31, Try.ntmps31
  go_wp2_with fail
  refine hD.mono ?_
  clear hD
  rintro e w1 ⟨A1, a1, B1, b1, tg1, rfl, h1⟩
  obtain ⟨y0, y1, y2, y3⟩ := op_blk (h1.at 0 rfl)
  have hD := (h1.alloc (snO c.La A1 a1 B1 b1)).does HOK.out
  have H1 := Lib.hid h1
  clear h1
  go_wp2_with fail
  refine hD.mono ?_
  clear hD y0 y1 y2 y3
  rintro e w2 ⟨A2, a2, B2, b2, tg2, rfl, h2⟩
  obtain ⟨y0, y1, y2, y3⟩ := op_blk (h2.at 1 rfl)
  have hD := (h2.alloc (snO c.La A2 a2 B2 b2)).doesB HOK.out
  have H2 := Lib.hid h2
  clear h2
  go_wp2_with fail
  refine hD.mono ?_
  clear hD y0 y1 y2 y3
  rintro e w3 ⟨A3, a3, B3, b3, tg3, rfl, h3⟩
  obtain ⟨y0, y1, y2, y3⟩ := op_blk (h3.at 2 rfl)
  have hD := (h3.alloc (snO c.Lb A3 a3 B3 b3)).does HOK.out
  have H3 := Lib.hid h3
  clear h3
  go_wp2_with fail
  refine hD.mono ?_
  clear hD y0 y1 y2 y3
  rintro e w4 ⟨A4, a4, B4, b4, tg4, rfl, h4⟩
  obtain ⟨y0, y1, y2, y3⟩ := op_blk (h4.at 3 rfl)
  have hD := (h4.alloc (snO c.La A4 a4 B4 b4)).doA HOK.out
  have H4 := Lib.hid h4
  clear h4
  go_wp2_with fail
  refine hD.mono ?_
  clear hD y0 y1 y2 y3
  rintro e w5 ⟨A5, a5, B5, b5, tg5, rfl, h5⟩
  obtain ⟨y0, y1, y2, y3⟩ := op_blk (h5.at 4 rfl)
  have hD := (h5.alloc (snO c.La A5 a5 B5 b5)).doB HOK.out
  have H5 := Lib.hid h5
  clear h5
  go_wp2_with fail
  refine hD.mono ?_
  clear hD y0 y1 y2 y3
  rintro e w6 ⟨A6, a6, B6, b6, tg6, rfl, h6⟩
  have H6 := Lib.hid (h6.alloc (snO c.Lb A6 a6 B6 b6))
  clear h6
  go_upto_region 8 with fail
  refine nameW ?_
  intro V hV
  have hs := H6.out
  rw [← hV] at hs
  obtain ⟨N, hN⟩ : ∃ N : List It, N = [snI c.La A1 a1 B1 b1, snI c.La A2 a2 B2 b2, snI c.Lb A3 a3 B3 b3, snI c.La A4 a4 B4 b4] := ⟨_, rfl⟩
  obtain ⟨M, hM⟩ : ∃ M : List It, M = [snI c.La A5 a5 B5 b5, snI c.Lb A6 a6 B6 b6] := ⟨_, rfl⟩
  obtain ⟨Ls, hL⟩ : ∃ Ls : List (Nat × Obj), Ls = [(w6.heap.size, snO c.Lb A6 a6 B6 b6), (w5.heap.size, snO c.La A5 a5 B5 b5), (w4.heap.size, snO c.La A4 a4 B4 b4), (w3.heap.size, snO c.Lb A3 a3 B3 b3), (w2.heap.size, snO c.La A2 a2 B2 b2), (w1.heap.size, snO c.La A1 a1 B1 b1), (c.w0.heap.size, .cells #[.int .i64 3, .int .i64 0, .string ⟨#[]⟩] 23 (0, 0))] := ⟨_, rfl⟩
  have hs1 : ASt c V tg6 sum (.slice AL F.length CL) (.slice AW W.length CW) F W N M Ls := by rw [hN, hM, hL]; exact hs
  have HL := Lib.hid (And.intro hN (And.intro hM hL))
  have HLOC := Lib.hid (fun (wx : World) (tg : Nat → Nat) (sum : Int) (vL vW : Value) (F W N M : List It) (h : ASt c wx tg sum vL vW F W N M Ls) => (show (wx.heap[w1.heap.size]? = some (snO c.La A1 a1 B1 b1) ∧ wx.heap[w2.heap.size]? = some (snO c.La A2 a2 B2 b2) ∧ wx.heap[w3.heap.size]? = some (snO c.Lb A3 a3 B3 b3) ∧ wx.heap[w4.heap.size]? = some (snO c.La A4 a4 B4 b4) ∧ wx.heap[w5.heap.size]? = some (snO c.La A5 a5 B5 b5) ∧ wx.heap[w6.heap.size]? = some (snO c.Lb A6 a6 B6 b6)) from ⟨h.at 5 (by rw [hL]; rfl), h.at 4 (by rw [hL]; rfl), h.at 3 (by rw [hL]; rfl), h.at 2 (by rw [hL]; rfl), h.at 1 (by rw [hL]; rfl), h.at 0 (by rw [hL]; rfl)⟩))
  clear hs hV hN hM hL H6 H5 H4 H3 H2 H1 H0
  have k0 : V.cell? ⟨c.kb, 0, none⟩ = some (.slice AL F.length CL) := blk_cell hs1.kb.blk rfl
  have kl := blk_lt hs1.kb.blk
  obtain ⟨l1, l2, l3, l4, l5, l6⟩ := HLOC.out _ _ _ _ _ _ _ _ _ hs1
  have hFl := HN.out.2.2.1
  have HKBV := Lib.hid hs1.kb.blk
  have HROW := Lib.hid hs1.kb.rowL
  have HNEV := Lib.hid (show some c.kb ≠ (Value.slice AL F.length CL).ownBlock from fun e => by have h1 := hs1.kb.tL c.kb e.symm; have h2 := hs1.kb.tk; omega)
  have hfar : ∀ b o, (b, o) ∈ Ls → some b ≠ (Value.slice AL F.length CL).ownBlock ∧ b ≠ c.kb := fun b o q => by
    have h0 := (hs1.loc _ q).2
    exact ⟨fun e => by have h1 := hs1.kb.tL b e.symm; simp only at h0; omega, fun e => by have h2 := hs1.kb.tk; simp only at h0; rw [e] at h0; omega⟩
  have HFARV := Lib.hid (And.intro (hfar w1.heap.size (snO c.La A1 a1 B1 b1) (by rw [HL.out.2.2]; simp)) (And.intro (hfar w2.heap.size (snO c.La A2 a2 B2 b2) (by rw [HL.out.2.2]; simp)) (And.intro (hfar w3.heap.size (snO c.Lb A3 a3 B3 b3) (by rw [HL.out.2.2]; simp)) (hfar w4.heap.size (snO c.La A4 a4 B4 b4) (by rw [HL.out.2.2]; simp)))))
  have HLV := Lib.hid (And.intro l1 (And.intro l2 (And.intro l3 l4)))
  have HV := Lib.hid hs1
  clear hs1 l1 l2 l3 l4 l5 l6 hfar
  -- REGIONS
  go_cut [10] from 37 to 50 (fun s10 wx => s10 = .bool false ∧ ∃ A' C' tg', ASt c wx tg' sum (.slice A' (F.length + 4) C') (.slice AW W.length CW) (F ++ N) W N M Ls)
  case first =>
    refine wp_region_held (S := fun w' => w'.heap[w1.heap.size]? = some (snO c.La A1 a1 B1 b1) ∧ w'.heap[w2.heap.size]? = some (snO c.La A2 a2 B2 b2) ∧ w'.heap[w3.heap.size]? = some (snO c.Lb A3 a3 B3 b3) ∧ w'.heap[w4.heap.size]? = some (snO c.La A4 a4 B4 b4)) (by kernel_rfl) ?_
    refine wpAnyH_take (i := 0) (v := .pointer (some ⟨c.kb, 0, none⟩)) rfl (by decide +kernel) (by decide +kernel) (by decide +kernel) (fun _ _ _ h => h) (Or.inl ⟨by rfl, fun w' hw' => by obtain ⟨e1, e2, e3, e4⟩ := hw'; go_simp⟩) ⟨HLV.out.1, HLV.out.2.1, HLV.out.2.2.1, HLV.out.2.2.2⟩ ?_
    refine wpAnyH_take (i := 1) (v := .pointer (some ⟨c.kb, 0, none⟩)) rfl (by decide +kernel) (by decide +kernel) (by decide +kernel) (fun _ _ _ h => h) (Or.inl ⟨by rfl, fun w' hw' => by obtain ⟨e1, e2, e3, e4⟩ := hw'; go_simp⟩) ⟨HLV.out.1, HLV.out.2.1, HLV.out.2.2.1, HLV.out.2.2.2⟩ ?_
    refine wpAnyH_take (i := 2) (v := .pointer (some ⟨c.kb, 0, none⟩)) rfl (by decide +kernel) (by decide +kernel) (by decide +kernel) (fun _ _ _ h => h) (Or.inl ⟨by rfl, fun w' hw' => by obtain ⟨e1, e2, e3, e4⟩ := hw'; go_simp⟩) ⟨HLV.out.1, HLV.out.2.1, HLV.out.2.2.1, HLV.out.2.2.2⟩ ?_
    refine wpAnyH_take (i := 3) (v := .pointer (some ⟨c.kb, 0, none⟩)) rfl (by decide +kernel) (by decide +kernel) (by decide +kernel) (fun _ _ _ h => h) (Or.inl ⟨by rfl, fun w' hw' => by obtain ⟨e1, e2, e3, e4⟩ := hw'; go_simp⟩) ⟨HLV.out.1, HLV.out.2.1, HLV.out.2.2.1, HLV.out.2.2.2⟩ ?_
    refine wpAnyH_take (i := 5) (v := snV c.La A1 a1 B1 b1) rfl (by decide +kernel) (by decide +kernel) (by decide +kernel) (fun _ _ _ h => h) (Or.inl ⟨by rfl, fun w' hw' => by obtain ⟨e1, e2, e3, e4⟩ := hw'; obtain ⟨p0, p1, p2, p3, p4⟩ := rep_blk e1; go_simp⟩) ⟨HLV.out.1, HLV.out.2.1, HLV.out.2.2.1, HLV.out.2.2.2⟩ ?_
    refine wpAnyH_take (i := 6) (v := snV c.La A2 a2 B2 b2) rfl (by decide +kernel) (by decide +kernel) (by decide +kernel) (fun _ _ _ h => h) (Or.inl ⟨by rfl, fun w' hw' => by obtain ⟨e1, e2, e3, e4⟩ := hw'; obtain ⟨p0, p1, p2, p3, p4⟩ := rep_blk e2; go_simp⟩) ⟨HLV.out.1, HLV.out.2.1, HLV.out.2.2.1, HLV.out.2.2.2⟩ ?_
    refine wpAnyH_take (i := 7) (v := snV c.Lb A3 a3 B3 b3) rfl (by decide +kernel) (by decide +kernel) (by decide +kernel) (fun _ _ _ h => h) (Or.inl ⟨by rfl, fun w' hw' => by obtain ⟨e1, e2, e3, e4⟩ := hw'; obtain ⟨p0, p1, p2, p3, p4⟩ := rep_blk e3; go_simp⟩) ⟨HLV.out.1, HLV.out.2.1, HLV.out.2.2.1, HLV.out.2.2.2⟩ ?_
    refine wpAnyH_take (i := 8) (v := snV c.La A4 a4 B4 b4) rfl (by decide +kernel) (by decide +kernel) (by decide +kernel) (fun _ _ _ h => h) (Or.inl ⟨by rfl, fun w' hw' => by obtain ⟨e1, e2, e3, e4⟩ := hw'; obtain ⟨p0, p1, p2, p3, p4⟩ := rep_blk e4; go_simp⟩) ⟨HLV.out.1, HLV.out.2.1, HLV.out.2.2.1, HLV.out.2.2.2⟩ ?_
    refine wpAnyH_two (i := 4) (k := 9) (by kernel_rfl) rfl rfl (by rfl) (by rfl) ?_ ?_
    · intro Kq hK
      go_simp
      refine hK _ _ ⟨HLV.out.1, HLV.out.2.1, HLV.out.2.2.1, HLV.out.2.2.2⟩ ?_
      clear hK Kq
      refine wpAnyH_step (i := 9) (by kernel_rfl) rfl (by rfl) ?_
      intro Kq hK
      go_simp
      refine hK _ _ ⟨blk_alloc HLV.out.1 _, blk_alloc HLV.out.2.1 _, blk_alloc HLV.out.2.2.1 _, blk_alloc HLV.out.2.2.2 _⟩ ?_
      clear hK Kq
      refine wpAnyH_step (i := 10) (by kernel_rfl) rfl (by rfl) ?_
      intro Kq hK
      refine wp_app _ (.tmp 41) (.tmp 46) 46 rfl 0 50 im _ 4 72 Try.underlying46 HIM.out.1 HIM.out.2.1 HIM.out.2.2.1 HIM.out.2.2.2 rfl (by decide) (.slice AL F.length CL) F.length (F.flatMap itC) rfl (HROW.out.drew.alloc _) V.heap.size 4 4 (snC c.La A1 a1 B1 b1 ++ snC c.La A2 a2 B2 b2 ++ snC c.Lb A3 a3 B3 b3 ++ snC c.La A4 a4 B4 b4) 50 (0, 0) rfl (new_blk _) rfl (by simp [Value.oneCell']) (by unfold maxLen; omega) (by omega) (Nat.zero_le _) ?_
      intro A9 C9 w9 ho9 hg9 hat9
      have hg8 : V.grownBy w9 (Value.slice AL F.length CL).ownBlock := alloc_grown ⟨hg9.os, hg9.tape, hg9.output, hg9.size, hg9.block⟩
      have hkb := blk_grown HKBV.out hg8 HNEV.out
      have j1 : w9.cell? ⟨c.kb, 0, none⟩ = some (.slice AL F.length CL) := blk_cell hkb rfl
      have j2 := blk_frozen hkb 0
      have j3 := blk_lt hkb
      have HS9 := Lib.hid (show w9.heap[w1.heap.size]? = some (snO c.La A1 a1 B1 b1) ∧ w9.heap[w2.heap.size]? = some (snO c.La A2 a2 B2 b2) ∧ w9.heap[w3.heap.size]? = some (snO c.Lb A3 a3 B3 b3) ∧ w9.heap[w4.heap.size]? = some (snO c.La A4 a4 B4 b4) from ⟨blk_grown HLV.out.1 hg8 (HFARV.out.1).1, blk_grown HLV.out.2.1 hg8 (HFARV.out.2.1).1, blk_grown HLV.out.2.2.1 hg8 (HFARV.out.2.2.1).1, blk_grown HLV.out.2.2.2 hg8 (HFARV.out.2.2.2).1⟩)
      have H9 := Lib.hid (And.intro ho9 (And.intro hg8 hat9))
      clear hkb ho9 hg9 hat9 hg8
      refine hK _ _ HS9.out ?_
      clear hK Kq
      refine wpAnyH_take (i := 11) (v := .pointer (some ⟨c.kb, 0, none⟩)) rfl (by decide +kernel) (by decide +kernel) (by decide +kernel) (fun _ _ _ h => h) (Or.inl ⟨by rfl, fun w' hw' => by obtain ⟨e1, e2, e3, e4⟩ := hw'; go_simp⟩) HS9.out ?_
      refine wpAnyH_take (i := 12) (v := .pointer (some ⟨c.kb, 0, none⟩)) rfl (by decide +kernel) (by decide +kernel) (by decide +kernel) (fun _ _ _ h => h) (Or.inl ⟨by rfl, fun w' hw' => by obtain ⟨e1, e2, e3, e4⟩ := hw'; go_simp⟩) HS9.out ?_
      refine wpAnyH_step (i := 13) (by kernel_rfl) rfl (by rfl) ?_
      intro Kq hK
      go_simp
      refine hK _ _ ⟨blk_far HS9.out.1 (HFARV.out.1).2 _, blk_far HS9.out.2.1 (HFARV.out.2.1).2 _, blk_far HS9.out.2.2.1 (HFARV.out.2.2.1).2 _, blk_far HS9.out.2.2.2 (HFARV.out.2.2.2).2 _⟩ ?_
      clear hK Kq
      refine wpAnyH_done (by kernel_rfl) ?_ _
      go_wp2_with fail
      go_meet
      obtain ⟨hown, hg2, hat⟩ := H9.out
      have hNe := HL.out.1
      have hnew := HV.out.growL (X := N) (A := A9) (C := C9) (by rw [hNe]; exact hown) hg2 (hat.imp id fun q => ⟨_, by simp, q⟩) HOK.out
      exact ⟨rfl, A9, C9, _, by rw [hNe] at hnew ⊢; exact hnew⟩
    · intro Kq hK
      go_simp
      refine hK _ _ ⟨blk_alloc HLV.out.1 _, blk_alloc HLV.out.2.1 _, blk_alloc HLV.out.2.2.1 _, blk_alloc HLV.out.2.2.2 _⟩ ?_
      clear hK Kq
      refine wpAnyH_step (i := 4) (by kernel_rfl) rfl (by rfl) ?_
      intro Kq hK
      go_simp
      refine hK _ _ ⟨blk_alloc HLV.out.1 _, blk_alloc HLV.out.2.1 _, blk_alloc HLV.out.2.2.1 _, blk_alloc HLV.out.2.2.2 _⟩ ?_
      clear hK Kq
      refine wpAnyH_step (i := 10) (by kernel_rfl) rfl (by rfl) ?_
      intro Kq hK
      refine wp_app _ (.tmp 41) (.tmp 46) 46 rfl 0 50 im _ 4 72 Try.underlying46 HIM.out.1 HIM.out.2.1 HIM.out.2.2.1 HIM.out.2.2.2 rfl (by decide) (.slice AL F.length CL) F.length (F.flatMap itC) rfl (HROW.out.drew.alloc _) V.heap.size 4 4 (snC c.La A1 a1 B1 b1 ++ snC c.La A2 a2 B2 b2 ++ snC c.Lb A3 a3 B3 b3 ++ snC c.La A4 a4 B4 b4) 50 (0, 0) rfl (new_blk _) rfl (by simp [Value.oneCell']) (by unfold maxLen; omega) (by omega) (Nat.zero_le _) ?_
      intro A9 C9 w9 ho9 hg9 hat9
      have hg8 : V.grownBy w9 (Value.slice AL F.length CL).ownBlock := alloc_grown ⟨hg9.os, hg9.tape, hg9.output, hg9.size, hg9.block⟩
      have hkb := blk_grown HKBV.out hg8 HNEV.out
      have j1 : w9.cell? ⟨c.kb, 0, none⟩ = some (.slice AL F.length CL) := blk_cell hkb rfl
      have j2 := blk_frozen hkb 0
      have j3 := blk_lt hkb
      have HS9 := Lib.hid (show w9.heap[w1.heap.size]? = some (snO c.La A1 a1 B1 b1) ∧ w9.heap[w2.heap.size]? = some (snO c.La A2 a2 B2 b2) ∧ w9.heap[w3.heap.size]? = some (snO c.Lb A3 a3 B3 b3) ∧ w9.heap[w4.heap.size]? = some (snO c.La A4 a4 B4 b4) from ⟨blk_grown HLV.out.1 hg8 (HFARV.out.1).1, blk_grown HLV.out.2.1 hg8 (HFARV.out.2.1).1, blk_grown HLV.out.2.2.1 hg8 (HFARV.out.2.2.1).1, blk_grown HLV.out.2.2.2 hg8 (HFARV.out.2.2.2).1⟩)
      have H9 := Lib.hid (And.intro ho9 (And.intro hg8 hat9))
      clear hkb ho9 hg9 hat9 hg8
      refine hK _ _ HS9.out ?_
      clear hK Kq
      refine wpAnyH_take (i := 11) (v := .pointer (some ⟨c.kb, 0, none⟩)) rfl (by decide +kernel) (by decide +kernel) (by decide +kernel) (fun _ _ _ h => h) (Or.inl ⟨by rfl, fun w' hw' => by obtain ⟨e1, e2, e3, e4⟩ := hw'; go_simp⟩) HS9.out ?_
      refine wpAnyH_take (i := 12) (v := .pointer (some ⟨c.kb, 0, none⟩)) rfl (by decide +kernel) (by decide +kernel) (by decide +kernel) (fun _ _ _ h => h) (Or.inl ⟨by rfl, fun w' hw' => by obtain ⟨e1, e2, e3, e4⟩ := hw'; go_simp⟩) HS9.out ?_
      refine wpAnyH_step (i := 13) (by kernel_rfl) rfl (by rfl) ?_
      intro Kq hK
      go_simp
      refine hK _ _ ⟨blk_far HS9.out.1 (HFARV.out.1).2 _, blk_far HS9.out.2.1 (HFARV.out.2.1).2 _, blk_far HS9.out.2.2.1 (HFARV.out.2.2.1).2 _, blk_far HS9.out.2.2.2 (HFARV.out.2.2.2).2 _⟩ ?_
      clear hK Kq
      refine wpAnyH_done (by kernel_rfl) ?_ _
      go_wp2_with fail
      go_meet
      obtain ⟨hown, hg2, hat⟩ := H9.out
      have hNe := HL.out.1
      have hnew := HV.out.growL (X := N) (A := A9) (C := C9) (by rw [hNe]; exact hown) hg2 (hat.imp id fun q => ⟨_, by simp, q⟩) HOK.out
      exact ⟨rfl, A9, C9, _, by rw [hNe] at hnew ⊢; exact hnew⟩
  case rest =>
    obtain ⟨rfl, AL', CL', tg7, hs1⟩ := hcut
    obtain ⟨V2, rfl⟩ : ∃ V2 : World, V2 = wc := ⟨_, rfl⟩
    clear HV HLV HFARV HNEV HROW HKBV k0 kl
    have k0 : V2.cell? ⟨c.kb, 1, none⟩ = some (.slice AW W.length CW) := blk_cell hs1.kb.blk rfl
    have kl := blk_lt hs1.kb.blk
    obtain ⟨l1, l2, l3, l4, l5, l6⟩ := HLOC.out _ _ _ _ _ _ _ _ _ hs1
    have hWl := HN.out.2.2.2
    have HKBV2 := Lib.hid hs1.kb.blk
    have HROW := Lib.hid hs1.kb.rowW
    have HNEV2 := Lib.hid (show some c.kb ≠ (Value.slice AW W.length CW).ownBlock from fun e => by have h1 := hs1.kb.tW c.kb e.symm; have h2 := hs1.kb.tk; omega)
    have hfar : ∀ b o, (b, o) ∈ Ls → some b ≠ (Value.slice AW W.length CW).ownBlock ∧ b ≠ c.kb := fun b o q => by
      have h0 := (hs1.loc _ q).2
      exact ⟨fun e => by have h1 := hs1.kb.tW b e.symm; simp only at h0; omega, fun e => by have h2 := hs1.kb.tk; simp only at h0; rw [e] at h0; omega⟩
    have HFARV2 := Lib.hid (And.intro (hfar w5.heap.size (snO c.La A5 a5 B5 b5) (by rw [HL.out.2.2]; simp)) (hfar w6.heap.size (snO c.Lb A6 a6 B6 b6) (by rw [HL.out.2.2]; simp)))
    have HLV2 := Lib.hid (And.intro l5 l6)
    have HV2 := Lib.hid hs1
    clear hs1 l1 l2 l3 l4 l5 l6 hfar
    go_upto_region 9 with fail
    go_cut [10] from 50 to 63 (fun s10 wx => s10 = .bool false ∧ ∃ A' C' tg', ASt c wx tg' sum (.slice AL' (F.length + 4) CL') (.slice A' (W.length + 4) C') (F ++ N) (W ++ [snI c.La A5 a5 B5 b5, snI c.La A5 a5 B5 b5, snI c.Lb A6 a6 B6 b6, snI c.La A5 a5 B5 b5]) N M Ls)
    case first =>
      refine wp_region_held (S := fun w' => w'.heap[w5.heap.size]? = some (snO c.La A5 a5 B5 b5) ∧ w'.heap[w6.heap.size]? = some (snO c.Lb A6 a6 B6 b6)) (by kernel_rfl) ?_
      refine wpAnyH_take (i := 0) (v := .pointer (some ⟨c.kb, 0, none⟩)) rfl (by decide +kernel) (by decide +kernel) (by decide +kernel) (fun _ _ _ h => h) (Or.inl ⟨by rfl, fun w' hw' => by obtain ⟨e1, e2⟩ := hw'; go_simp⟩) ⟨HLV2.out.1, HLV2.out.2⟩ ?_
      refine wpAnyH_take (i := 1) (v := .pointer (some ⟨c.kb, 0, none⟩)) rfl (by decide +kernel) (by decide +kernel) (by decide +kernel) (fun _ _ _ h => h) (Or.inl ⟨by rfl, fun w' hw' => by obtain ⟨e1, e2⟩ := hw'; go_simp⟩) ⟨HLV2.out.1, HLV2.out.2⟩ ?_
      refine wpAnyH_take (i := 2) (v := .pointer (some ⟨c.kb, 0, none⟩)) rfl (by decide +kernel) (by decide +kernel) (by decide +kernel) (fun _ _ _ h => h) (Or.inl ⟨by rfl, fun w' hw' => by obtain ⟨e1, e2⟩ := hw'; go_simp⟩) ⟨HLV2.out.1, HLV2.out.2⟩ ?_
      refine wpAnyH_take (i := 3) (v := .pointer (some ⟨c.kb, 1, none⟩)) rfl (by decide +kernel) (by decide +kernel) (by decide +kernel) (fun _ _ _ h => h) (Or.inl ⟨by rfl, fun w' hw' => by obtain ⟨e1, e2⟩ := hw'; go_simp⟩) ⟨HLV2.out.1, HLV2.out.2⟩ ?_
      refine wpAnyH_take (i := 5) (v := snV c.La A5 a5 B5 b5) rfl (by decide +kernel) (by decide +kernel) (by decide +kernel) (fun _ _ _ h => h) (Or.inl ⟨by rfl, fun w' hw' => by obtain ⟨e1, e2⟩ := hw'; obtain ⟨p0, p1, p2, p3, p4⟩ := rep_blk e1; go_simp⟩) ⟨HLV2.out.1, HLV2.out.2⟩ ?_
      refine wpAnyH_take (i := 6) (v := snV c.La A5 a5 B5 b5) rfl (by decide +kernel) (by decide +kernel) (by decide +kernel) (fun _ _ _ h => h) (Or.inl ⟨by rfl, fun w' hw' => by obtain ⟨e1, e2⟩ := hw'; obtain ⟨p0, p1, p2, p3, p4⟩ := rep_blk e1; go_simp⟩) ⟨HLV2.out.1, HLV2.out.2⟩ ?_
      refine wpAnyH_take (i := 7) (v := snV c.Lb A6 a6 B6 b6) rfl (by decide +kernel) (by decide +kernel) (by decide +kernel) (fun _ _ _ h => h) (Or.inl ⟨by rfl, fun w' hw' => by obtain ⟨e1, e2⟩ := hw'; obtain ⟨p0, p1, p2, p3, p4⟩ := rep_blk e2; go_simp⟩) ⟨HLV2.out.1, HLV2.out.2⟩ ?_
      refine wpAnyH_take (i := 8) (v := snV c.La A5 a5 B5 b5) rfl (by decide +kernel) (by decide +kernel) (by decide +kernel) (fun _ _ _ h => h) (Or.inl ⟨by rfl, fun w' hw' => by obtain ⟨e1, e2⟩ := hw'; obtain ⟨p0, p1, p2, p3, p4⟩ := rep_blk e1; go_simp⟩) ⟨HLV2.out.1, HLV2.out.2⟩ ?_
      refine wpAnyH_two (i := 4) (k := 9) (by kernel_rfl) rfl rfl (by rfl) (by rfl) ?_ ?_
      · intro Kq hK
        go_simp
        refine hK _ _ ⟨HLV2.out.1, HLV2.out.2⟩ ?_
        clear hK Kq
        refine wpAnyH_step (i := 9) (by kernel_rfl) rfl (by rfl) ?_
        intro Kq hK
        go_simp
        refine hK _ _ ⟨blk_alloc HLV2.out.1 _, blk_alloc HLV2.out.2 _⟩ ?_
        clear hK Kq
        refine wpAnyH_step (i := 10) (by kernel_rfl) rfl (by rfl) ?_
        intro Kq hK
        refine wp_app _ (.tmp 54) (.tmp 59) 46 rfl 0 50 im _ 4 72 Try.underlying46 HIM.out.1 HIM.out.2.1 HIM.out.2.2.1 HIM.out.2.2.2 rfl (by decide) (.slice AW W.length CW) W.length (W.flatMap itC) rfl (HROW.out.drew.alloc _) V2.heap.size 4 4 (snC c.La A5 a5 B5 b5 ++ snC c.La A5 a5 B5 b5 ++ snC c.Lb A6 a6 B6 b6 ++ snC c.La A5 a5 B5 b5) 50 (0, 0) rfl (new_blk _) rfl (by simp [Value.oneCell']) (by unfold maxLen; omega) (by omega) (Nat.zero_le _) ?_
        intro A9 C9 w9 ho9 hg9 hat9
        have hg8 : V2.grownBy w9 (Value.slice AW W.length CW).ownBlock := alloc_grown ⟨hg9.os, hg9.tape, hg9.output, hg9.size, hg9.block⟩
        have hkb := blk_grown HKBV2.out hg8 HNEV2.out
        have j1 : w9.cell? ⟨c.kb, 1, none⟩ = some (.slice AW W.length CW) := blk_cell hkb rfl
        have j2 := blk_frozen hkb 1
        have j3 := blk_lt hkb
        have HS9 := Lib.hid (show w9.heap[w5.heap.size]? = some (snO c.La A5 a5 B5 b5) ∧ w9.heap[w6.heap.size]? = some (snO c.Lb A6 a6 B6 b6) from ⟨blk_grown HLV2.out.1 hg8 (HFARV2.out.1).1, blk_grown HLV2.out.2 hg8 (HFARV2.out.2).1⟩)
        have H9 := Lib.hid (And.intro ho9 (And.intro hg8 hat9))
        clear hkb ho9 hg9 hat9 hg8
        refine hK _ _ HS9.out ?_
        clear hK Kq
        refine wpAnyH_take (i := 11) (v := .pointer (some ⟨c.kb, 0, none⟩)) rfl (by decide +kernel) (by decide +kernel) (by decide +kernel) (fun _ _ _ h => h) (Or.inl ⟨by rfl, fun w' hw' => by obtain ⟨e1, e2⟩ := hw'; go_simp⟩) HS9.out ?_
        refine wpAnyH_take (i := 12) (v := .pointer (some ⟨c.kb, 1, none⟩)) rfl (by decide +kernel) (by decide +kernel) (by decide +kernel) (fun _ _ _ h => h) (Or.inl ⟨by rfl, fun w' hw' => by obtain ⟨e1, e2⟩ := hw'; go_simp⟩) HS9.out ?_
        refine wpAnyH_step (i := 13) (by kernel_rfl) rfl (by rfl) ?_
        intro Kq hK
        go_simp
        refine hK _ _ ⟨blk_far HS9.out.1 (HFARV2.out.1).2 _, blk_far HS9.out.2 (HFARV2.out.2).2 _⟩ ?_
        clear hK Kq
        refine wpAnyH_done (by kernel_rfl) ?_ _
        go_wp2_with fail
        go_meet
        obtain ⟨hown, hg2, hat⟩ := H9.out
        have hnew := HV2.out.growW (X := [snI c.La A5 a5 B5 b5, snI c.La A5 a5 B5 b5, snI c.Lb A6 a6 B6 b6, snI c.La A5 a5 B5 b5]) (A := A9) (C := C9) hown hg2 (hat.imp id fun q => ⟨_, by simp, q⟩) HOK.out
        exact ⟨rfl, A9, C9, _, hnew⟩
      · intro Kq hK
        go_simp
        refine hK _ _ ⟨blk_alloc HLV2.out.1 _, blk_alloc HLV2.out.2 _⟩ ?_
        clear hK Kq
        refine wpAnyH_step (i := 4) (by kernel_rfl) rfl (by rfl) ?_
        intro Kq hK
        go_simp
        refine hK _ _ ⟨blk_alloc HLV2.out.1 _, blk_alloc HLV2.out.2 _⟩ ?_
        clear hK Kq
        refine wpAnyH_step (i := 10) (by kernel_rfl) rfl (by rfl) ?_
        intro Kq hK
        refine wp_app _ (.tmp 54) (.tmp 59) 46 rfl 0 50 im _ 4 72 Try.underlying46 HIM.out.1 HIM.out.2.1 HIM.out.2.2.1 HIM.out.2.2.2 rfl (by decide) (.slice AW W.length CW) W.length (W.flatMap itC) rfl (HROW.out.drew.alloc _) V2.heap.size 4 4 (snC c.La A5 a5 B5 b5 ++ snC c.La A5 a5 B5 b5 ++ snC c.Lb A6 a6 B6 b6 ++ snC c.La A5 a5 B5 b5) 50 (0, 0) rfl (new_blk _) rfl (by simp [Value.oneCell']) (by unfold maxLen; omega) (by omega) (Nat.zero_le _) ?_
        intro A9 C9 w9 ho9 hg9 hat9
        have hg8 : V2.grownBy w9 (Value.slice AW W.length CW).ownBlock := alloc_grown ⟨hg9.os, hg9.tape, hg9.output, hg9.size, hg9.block⟩
        have hkb := blk_grown HKBV2.out hg8 HNEV2.out
        have j1 : w9.cell? ⟨c.kb, 1, none⟩ = some (.slice AW W.length CW) := blk_cell hkb rfl
        have j2 := blk_frozen hkb 1
        have j3 := blk_lt hkb
        have HS9 := Lib.hid (show w9.heap[w5.heap.size]? = some (snO c.La A5 a5 B5 b5) ∧ w9.heap[w6.heap.size]? = some (snO c.Lb A6 a6 B6 b6) from ⟨blk_grown HLV2.out.1 hg8 (HFARV2.out.1).1, blk_grown HLV2.out.2 hg8 (HFARV2.out.2).1⟩)
        have H9 := Lib.hid (And.intro ho9 (And.intro hg8 hat9))
        clear hkb ho9 hg9 hat9 hg8
        refine hK _ _ HS9.out ?_
        clear hK Kq
        refine wpAnyH_take (i := 11) (v := .pointer (some ⟨c.kb, 0, none⟩)) rfl (by decide +kernel) (by decide +kernel) (by decide +kernel) (fun _ _ _ h => h) (Or.inl ⟨by rfl, fun w' hw' => by obtain ⟨e1, e2⟩ := hw'; go_simp⟩) HS9.out ?_
        refine wpAnyH_take (i := 12) (v := .pointer (some ⟨c.kb, 1, none⟩)) rfl (by decide +kernel) (by decide +kernel) (by decide +kernel) (fun _ _ _ h => h) (Or.inl ⟨by rfl, fun w' hw' => by obtain ⟨e1, e2⟩ := hw'; go_simp⟩) HS9.out ?_
        refine wpAnyH_step (i := 13) (by kernel_rfl) rfl (by rfl) ?_
        intro Kq hK
        go_simp
        refine hK _ _ ⟨blk_far HS9.out.1 (HFARV2.out.1).2 _, blk_far HS9.out.2 (HFARV2.out.2).2 _⟩ ?_
        clear hK Kq
        refine wpAnyH_done (by kernel_rfl) ?_ _
        go_wp2_with fail
        go_meet
        obtain ⟨hown, hg2, hat⟩ := H9.out
        have hnew := HV2.out.growW (X := [snI c.La A5 a5 B5 b5, snI c.La A5 a5 B5 b5, snI c.Lb A6 a6 B6 b6, snI c.La A5 a5 B5 b5]) (A := A9) (C := C9) hown hg2 (hat.imp id fun q => ⟨_, by simp, q⟩) HOK.out
        exact ⟨rfl, A9, C9, _, hnew⟩
    case rest =>
      obtain ⟨rfl, AW', CW', tg8, hs1⟩ := hcut
      obtain ⟨V3, rfl⟩ : ∃ V3 : World, V3 = wc := ⟨_, rfl⟩
      clear HV2 HLV2 HFARV2 HNEV2 HROW HKBV2 k0 kl
      have k0 : V3.cell? ⟨c.kb, 2, none⟩ = some (.int .i64 sum) := blk_cell hs1.kb.blk rfl
      have k1 := blk_frozen hs1.kb.blk 2
      have kl := blk_lt hs1.kb.blk
      obtain ⟨l1, l2, l3, l4, l5, l6⟩ := HLOC.out _ _ _ _ _ _ _ _ _ hs1
      obtain ⟨p0, p1, p2, p3, p4⟩ := rep_blk l5
      obtain ⟨q0, q1, q2, q3, q4⟩ := rep_blk l6
      have HV3 := Lib.hid hs1
      clear hs1 l1 l2 l3 l4 l5 l6
      go_upto_region 10 with fail
      go_region
      obtain ⟨s', hs'⟩ : ∃ s', s' = wrap64 (wrap64 (sum + wrap64 (3 * (c.La.length : Int))) + (c.Lb.length : Int)) := ⟨_, rfl⟩
      rw [← hs']
      generalize hV4 : (V3.setCell ⟨c.kb, 2, none⟩ (.int .i64 s')).drew = V4
      have hs2 : ASt c V4 tg8 s' (.slice AL' (F.length + 4) CL') (.slice AW' (W.length + 4) CW') (F ++ N) (W ++ [snI c.La A5 a5 B5 b5, snI c.La A5 a5 B5 b5, snI c.Lb A6 a6 B6 b6, snI c.La A5 a5 B5 b5]) N M Ls := by rw [← hV4]; exact (HV3.out.setSum s' HOK.out).fresh ((Only.refl _ _).drew)
      clear hV4 k0 k1 kl p0 p1 p2 p3 p4 q0 q1 q2 q3 q4 HV3
      have HSM := Lib.hid hs'
      clear hs'
      obtain ⟨l1, l2, l3, l4, l5, l6⟩ := HLOC.out _ _ _ _ _ _ _ _ _ hs2
      obtain ⟨-, -, r1⟩ := hs2.rn.rep (x := snI c.La A1 a1 B1 b1) (by rw [HL.out.1]; simp) rfl rfl
      obtain ⟨-, -, r2⟩ := hs2.rn.rep (x := snI c.La A2 a2 B2 b2) (by rw [HL.out.1]; simp) rfl rfl
      obtain ⟨-, -, r3⟩ := hs2.rn.rep (x := snI c.Lb A3 a3 B3 b3) (by rw [HL.out.1]; simp) rfl rfl
      obtain ⟨-, -, r4⟩ := hs2.rn.rep (x := snI c.La A4 a4 B4 b4) (by rw [HL.out.1]; simp) rfl rfl
      obtain ⟨-, -, r5⟩ := hs2.rm.rep (x := snI c.La A5 a5 B5 b5) (by rw [HL.out.2.1]; simp) rfl rfl
      obtain ⟨-, -, r6⟩ := hs2.rm.rep (x := snI c.Lb A6 a6 B6 b6) (by rw [HL.out.2.1]; simp) rfl rfl
      have HE1 := Lib.hid (fun (U : World) (hb : Below V4.heap.size V4 U) => eq_sn (r1.below hb) (r5.below hb))
      have HE2 := Lib.hid (fun (U : World) (hb : Below V4.heap.size V4 U) => eq_sn (r2.below hb) (r5.below hb))
      have HE3 := Lib.hid (fun (U : World) (hb : Below V4.heap.size V4 U) => eq_sn (r3.below hb) (r6.below hb))
      have HE4 := Lib.hid (fun (U : World) (hb : Below V4.heap.size V4 U) => eq_sn (r4.below hb) (r5.below hb))
      have HB4 := Lib.hid (And.intro l1 (And.intro l2 (And.intro l3 (And.intro l4 (And.intro l5 l6)))))
      have HV4 := Lib.hid hs2
      clear hs2 r1 r2 r3 r4 r5 r6 l1 l2 l3 l4 l5 l6
      obtain ⟨p0, p1, p2, p3, p4⟩ := rep_blk HB4.out.1
      obtain ⟨q0, q1, q2, q3, q4⟩ := rep_blk HB4.out.2.2.2.2.1
      go_wp2_with fail
      refine (HE1.out V4 (Below.refl _ _)).mono ?_
      rintro e V5 ⟨rfl, hb5⟩
      clear p0 p1 p2 p3 p4 q0 q1 q2 q3 q4
      obtain ⟨p0, p1, p2, p3, p4⟩ := rep_blk (blk_below HB4.out.2.1 hb5)
      obtain ⟨q0, q1, q2, q3, q4⟩ := rep_blk (blk_below HB4.out.2.2.2.2.1 hb5)
      have HB5 := Lib.hid hb5
      clear hb5
      go_wp2_with fail
      refine (HE2.out V5 HB5.out).mono ?_
      rintro e V6 ⟨rfl, hb⟩
      have hb6 := below_step HB5.out hb
      clear p0 p1 p2 p3 p4 q0 q1 q2 q3 q4 hb
      obtain ⟨p0, p1, p2, p3, p4⟩ := rep_blk (blk_below HB4.out.2.2.1 hb6)
      obtain ⟨q0, q1, q2, q3, q4⟩ := rep_blk (blk_below HB4.out.2.2.2.2.2 hb6)
      have HB6 := Lib.hid hb6
      clear hb6
      go_wp2_with fail
      refine (HE3.out V6 HB6.out).mono ?_
      rintro e V7 ⟨rfl, hb⟩
      have hb7 := below_step HB6.out hb
      clear p0 p1 p2 p3 p4 q0 q1 q2 q3 q4 hb
      obtain ⟨p0, p1, p2, p3, p4⟩ := rep_blk (blk_below HB4.out.2.2.2.1 hb7)
      obtain ⟨q0, q1, q2, q3, q4⟩ := rep_blk (blk_below HB4.out.2.2.2.2.1 hb7)
      have HB7 := Lib.hid hb7
      clear hb7
      go_wp2_with fail
      refine (HE4.out V7 HB7.out).mono ?_
      rintro e V8 ⟨rfl, hb⟩
      have hb8 := below_step HB7.out hb
      clear p0 p1 p2 p3 p4 q0 q1 q2 q3 q4 hb
      have HB8 := Lib.hid hb8
      clear hb8
      go_wp2_with fail
      go_ret
      have hf8 : Fresh V4 V8 := Only.of_below HB8.out fun b h1 h2 => absurd h2 (Nat.not_lt.2 h1)
      have hla := HOK.out.la
      have hlb := HOK.out.lb
      have hsm := HSM.out
      obtain ⟨hs0, hs1, _, _⟩ := HN.out
      have hr3 : wrap64 (3 * (c.La.length : Int)) = 3 * (c.La.length : Int) := by unfold wrap64; omega
      rw [hr3] at hsm
      have hr4 : wrap64 (sum + 3 * (c.La.length : Int)) = sum + 3 * (c.La.length : Int) := by unfold wrap64; omega
      rw [hr4] at hsm
      have hr5 : wrap64 (sum + 3 * (c.La.length : Int) + (c.Lb.length : Int)) = sum + 3 * (c.La.length : Int) + (c.Lb.length : Int) := by unfold wrap64; omega
      rw [hr5] at hsm
      have hNe := HL.out.1
      refine ASt.post (HV4.out.fresh hf8) HP.out ?_ (by rw [hNe]; rfl) (by rw [hNe]; rfl) ?_ (by omega) (by omega)
      · intro y hy
        rw [HL.out.2.1]
        simp only [List.mem_cons, List.not_mem_nil, or_false] at hy ⊢
        rcases hy with h | h | h | h
        · exact .inl h
        · exact .inl h
        · exact .inr h
        · exact .inl h
      · intro x hx
        rw [hNe] at hx
        simp only [List.mem_cons, List.not_mem_nil, or_false] at hx
        rcases hx with h | h | h | h
        · subst h; simp; omega
        · subst h; simp; omega
        · subst h; simp; omega
        · subst h; simp; omega
abbrev fK (i : Nat) : Value := .int .i64 (1000 + (i : Int))
abbrev fV (i : Nat) : Value := .string (markB (i : Int))
abbrev gK (i : Nat) : Value := .int .i64 (-1000 - (i : Int))
abbrev gV (i : Nat) : Value := .string (markB (-(i : Int)))
abbrev SpS (n : Nat) (vk vv : Nat → Value) (b : Nat) : Prop := FamS n vk b ∨ FamS n vv b
/-- a reply as it lies -/
def WantAt (W : World) (wb i : Nat) (r : PRep) : Prop := ∃ A2 c2 A3 c3, (W.cell? ⟨wb, i * 4, none⟩ = some (.bool r.f0) ∧ W.cell? ⟨wb, i * 4 + 1, none⟩ = some (.string r.f1) ∧ W.cell? ⟨wb, i * 4 + 2, none⟩ = some (.slice A2 r.f2.length c2) ∧ W.cell? ⟨wb, i * 4 + 3, none⟩ = some (.slice A3 r.f3.length c3)) ∧ RepIn W r A2 c2 A3 c3
theorem goneN_zero {t j k : Nat} (h : ¬ (k % 2 = 0 ∧ k < 2 * t)) (h2 : k ≠ 2 * t) : goneN t j k = 0 := by unfold goneN; rw [if_neg h, if_neg h2]
theorem odd_tmod {p : Nat} (h : p % 2 = 1) : ((p : Int)).tmod 2 = 1 := by rw [Int.tmod_eq_emod_of_nonneg (by omega)]; omega
theorem even_tmod {p : Nat} (h : p % 2 = 0) : ((p : Int)).tmod 2 = 0 := by rw [Int.tmod_eq_emod_of_nonneg (by omega)]; omega
/-- what an even row is read as, once its list was written over and gone on with -/
def EvIs (_e : TypeId) (wp : World) (Ak : Option Addr) (m ga m64 : Nat) (x y : Value) : Prop :=
  m64 = m + 64 ∧ ∀ W, Fresh wp W → (∀ j, j < m → ∃ g, Ak = some ⟨g, 0, none⟩ ∧ W.cell? ⟨g, j, none⟩ = some x) ∧ ∀ j, j < m64 → W.cell? ⟨ga, j, none⟩ = some (if j < m then x else y)
theorem Gone.ev {e : TypeId} {wp : World} {base n t : Nat} {v av : Nat → Value} {K : Nat → List Value} {f fx : Nat → Value} (h : Gone e wp base n v K av (yK f K t 0)) {p : Nat} (hp : p < n) (h2 : p % 2 = 0) (ht : p < 2 * t) {m : Nat} (hK : K p = List.replicate m (fx p)) {A : Option Addr} {c : Nat} (hv : v p = .slice A m c) (hA : ∀ g, 0 < m → A.map Addr.block = some g → A = some ⟨g, 0, none⟩) (hA2 : 0 < m → A ≠ none) :
    ∃ ga c m64, av p = .slice (some ⟨ga, 0, none⟩) m64 c ∧ EvIs e wp A m ga m64 (fx p) (f p) := by
  have ho := h.fam.own p hp
  have hy : yK f K t 0 p = List.replicate m (fx p) ++ List.replicate 64 (f p) := by
    unfold yK goneN
    rw [if_pos ⟨h2, ht⟩, hK]
  rw [hy] at ho
  have hl : (List.replicate m (fx p) ++ List.replicate 64 (f p)).length = m + 64 := by simp
  rw [hl] at ho
  have hat : ∀ j, j < m + 64 → (List.replicate m (fx p) ++ List.replicate 64 (f p))[j]? = some (if j < m then fx p else f p) := fun j hj => by
    by_cases q : j < m
    · rw [if_pos q, List.getElem?_append_left (by simpa using q)]
      simp [q]
    · rw [if_neg q, List.getElem?_append_right (by simp; omega)]
      rw [List.length_replicate, List.getElem?_replicate, if_pos (by omega)]
  obtain ⟨ga, c', he, _, _, _⟩ := own_cell ho (hat 0 (by omega))
  refine ⟨ga, c', m + 64, he, rfl, fun W hW => ⟨fun j hj => ?_, fun j hj => ?_⟩⟩
  · cases hq : A with
    | none => exact absurd hq (hA2 (by omega))
    | some a =>
      have hb := hA a.block (by omega) (by rw [hq]; rfl)
      rw [hq] at hb
      refine ⟨a.block, hb, ?_⟩
      have hvb : (v p).ownBlock = some a.block := by rw [hv, hq]; rfl
      have hr := h.reads p hp a.block j (fx p) hvb (by rw [hK]; simp [hj])
      obtain ⟨cl, hcl⟩ := h.typ p hp a.block hvb
      exact (hW.cel2 (p := ⟨a.block, j, none⟩) (blk_lt hcl)).trans hr
  · have hr := own_cells_at ho (g := ga) (by rw [he]; rfl) j _ (hat j hj)
    exact (hW.cel2 (p := ⟨ga, j, none⟩) (World.block_lt_of_cell? _ _ hr)).trans hr
theorem own_base {w : World} {base n : Nat} {e : TypeId} {A : Option Addr} {c : Nat} {xs : List Value} (h : w.ownsRow base e 1 (.slice A n c) n xs) : (∀ g, 0 < n → A.map Addr.block = some g → A = some ⟨g, 0, none⟩) ∧ (0 < n → A ≠ none) := by
  rcases h.2 with ⟨hh, hn⟩ | ⟨g', cap, cur, hv, _⟩
  · exact ⟨fun g h0 => absurd h0 (by omega), fun h0 => absurd h0 (by omega)⟩
  · injection hv with h1 _ _
    subst h1
    exact ⟨fun g _ hg => by simp at hg; rw [hg], fun _ => by simp⟩
theorem infoRowI : (Try.prog.info? 27).map (fun i => (i.zero, i.size, i.bytes)) = some (some (.slice none 0 0), 1, 24) := by kernel_rfl
theorem infoRowS : (Try.prog.info? 28).map (fun i => (i.zero, i.size, i.bytes)) = some (some (.slice none 0 0), 1, 24) := by kernel_rfl
set_option maxRecDepth 200000 in
set_option maxHeartbeats 8000000 in
theorem spoilt_walk (w : World) (base lb n C : Nat) (q : Nat → Bool × ByteArray) (vk vv : Nat → Value) (mk mv : Nat → Nat) (K V : Nat → List Value) (vw : Value) (h : Sp w base lb n q vk vv mk mv K V) (hbs : base ≤ w.heap.size) (hn : n ≤ 16777216) (hmk : ∀ k, k < n → mk k ≤ 16777216) (hmv : ∀ k, k < n → mv k ≤ 16777216)
    (wb nw D : Nat) (hvw : vw = .slice (some ⟨wb, 0, none⟩) nw D) (hnw : n ≤ nw) (hwant : ∀ i, i < n → i % 2 = 1 → ∃ r : PRep, r.f0 = (q i).1 ∧ r.f1 = (q i).2 ∧ K i = intsV r.f2 ∧ V i = strsV r.f3 ∧ ∀ W, Only w W (SpS n vk vv) → WantAt W wb i r) :
    Calls Try.prog 22 #[.slice (some ⟨lb, 0, none⟩) n C, vw] w fun e w' => e = .returned (.bool true) ∧ Only w w' (SpS n vk vv) := by
  have hu50 := Try.underlying50
  obtain ⟨i0, hin, hz0', hz1', hz2'⟩ := info_parts rinfoInt
  have HIN := Lib.hid (And.intro hin (And.intro hz0' (And.intro hz1' hz2')))
  obtain ⟨i1, hin1, hz01', hz11', hz21'⟩ := info_parts rinfoStr
  have HIS := Lib.hid (And.intro hin1 (And.intro hz01' (And.intro hz11' hz21')))
  obtain ⟨i2, hin2, hz02', hz12', hz22'⟩ := info_parts infoRowI
  have HII := Lib.hid (And.intro hin2 (And.intro hz02' (And.intro hz12' hz22')))
  obtain ⟨i3, hin3, hz03', hz13', hz23'⟩ := info_parts infoRowS
  have HSS := Lib.hid (And.intro hin3 (And.intro hz03' (And.intro hz13' hz23')))
  clear hin hz0' hz1' hz2' hin1 hz01' hz11' hz21' hin2 hz02' hz12' hz22' hin3 hz03' hz13' hz23'
  subst hvw
  have HWT := Lib.hid hwant
  clear hwant
  have H0 := Lib.hid h
  have HMK := Lib.hid hmk
  have HMV := Lib.hid hmv
  clear h hmk hmv
  go_enter Try.func22, Try.ntmps22
  go_wp2_with fail
  go_loopw [5] (fun s5 wr => ∃ i : Nat, i ≤ n + 1 ∧ i % 2 = 0 ∧ s5 = .int .i64 i ∧ Sp wr base lb n q vk vv mk mv (spoil fK K i) (spoil fV V i) ∧ Only w wr (SpS n vk vv)) (fun s5 _ => n + 2 - (intOf s5).toNat)
  case atStart => exact ⟨0, Nat.zero_le _, rfl, rfl, by rw [spoil_zero, spoil_zero]; exact H0.out, Only.refl _ _⟩
  case round =>
    obtain ⟨wo, rfl⟩ : ∃ wo : World, wo = wr := ⟨_, rfl⟩
    obtain ⟨i, hi, hi2, rfl, hsp, ho⟩ := hrel
    have HS := Lib.hid (And.intro hsp (And.intro ho hi2))
    by_cases hlt : i < n
    · have hlI : (i : Int) < (n : Int) := by omega
      have hl0 : (0 : Int) ≤ (i : Int) := by omega
      have hlD : decide ((i : Int) < (n : Int)) = true := by simp; omega
      have hmi := HMK.out i hlt
      have hmj := HMV.out i hlt
      obtain ⟨m, hm⟩ : ∃ m, m = mk i := ⟨_, rfl⟩
      rw [← hm] at hmi
      have HM := Lib.hid hm
      clear hsp ho hi2 hm
      go_wp2_with fail
      go_loopw [6] (fun s6 wr => ∃ j : Nat, j ≤ m ∧ s6 = .int .i64 j ∧ Sp wr base lb n q vk vv mk mv (spoilM fK K i j) (spoil fV V i) ∧ Only w wr (SpS n vk vv)) (fun s6 _ => m - (intOf s6).toNat)
      case atStart => exact ⟨0, Nat.zero_le _, rfl, by rw [spoilM_zero]; exact HS.out.1, HS.out.2.1⟩
      case round =>
        obtain ⟨j, hj, rfl, hsp, ho⟩ := hrel
        have HS2 := Lib.hid (And.intro hsp ho)
        obtain ⟨A, c, hvk⟩ := hsp.kat hlt
        have c2 := hsp.c2 i hlt
        rw [← HM.out] at hvk
        by_cases hlj : j < m
        · obtain ⟨g, c', x, he, z0, z1, z2⟩ := hsp.kcell hlt (j := j) (by rw [← HM.out]; exact hlj)
          rw [he, ← HM.out] at c2
          have HE := Lib.hid he
          have hjI : (j : Int) < (m : Int) := by omega
          have hj0 : (0 : Int) ≤ (j : Int) := by omega
          have hjD : decide ((j : Int) < (m : Int)) = true := by simp; omega
          clear hsp ho hvk he
          go_wp2_with fail
          go_roundw
          case rel =>
            refine ⟨j + 1, by omega, by go_num, ?_, HS2.out.2.setCell (.inl (.inl ⟨i, hlt, by rw [HE.out]; rfl⟩)) _⟩
            have hlen : j < (K i).length := by
              have := HS.out.1.lk i hlt
              rw [spoil_len] at this
              rw [this, ← HM.out]; exact hlj
            rw [← spoilM_step hlen]
            exact HS2.out.1.setK _ hlt (by rw [HE.out]; rfl)
          case measure => simp [intOf]; omega
        · obtain rfl : j = m := by omega
          have hjD : decide ((j : Int) < (j : Int)) = false := by simp
          rw [hvk] at c2
          have hsp2 := hsp
          have hi2 := HS.out.2.2
          have hme : spoilM fK K i j = spoil fK K (i + 2) := by
            have hlen : (K i).length = j := by
              have := HS.out.1.lk i hlt
              rw [spoil_len] at this
              rw [this, ← HM.out]
            rw [← hlen]; exact spoilM_end hi2
          rw [hme] at hsp2
          have HS3 := Lib.hid (And.intro hsp2 ho)
          clear hsp ho hvk hsp2 hi2 hme
          obtain ⟨wo2, rfl⟩ : ∃ wo2 : World, wo2 = wr := ⟨_, rfl⟩
          obtain ⟨m2, hm2⟩ : ∃ m2, m2 = mv i := ⟨_, rfl⟩
          rw [← hm2] at hmj
          have HM2 := Lib.hid hm2
          clear hm2
          go_wp2_with fail
          go_loopw [7] (fun s7 wr => ∃ j : Nat, j ≤ m2 ∧ s7 = .int .i64 j ∧ Sp wr base lb n q vk vv mk mv (spoil fK K (i + 2)) (spoilM fV V i j) ∧ Only w wr (SpS n vk vv)) (fun s7 _ => m2 - (intOf s7).toNat)
          case atStart => exact ⟨0, Nat.zero_le _, rfl, by rw [spoilM_zero]; exact HS3.out.1, HS3.out.2⟩
          case round =>
            obtain ⟨j2, hj2, rfl, hsp, ho⟩ := hrel
            have HS4 := Lib.hid (And.intro hsp ho)
            obtain ⟨A2, c2', hvv⟩ := hsp.vat hlt
            have c3 := hsp.c3 i hlt
            rw [← HM2.out] at hvv
            by_cases hlj2 : j2 < m2
            · obtain ⟨g, c', x, he, z0, z1, z2⟩ := hsp.vcell hlt (j := j2) (by rw [← HM2.out]; exact hlj2)
              rw [he, ← HM2.out] at c3
              have HE := Lib.hid he
              have hjI : (j2 : Int) < (m2 : Int) := by omega
              have hj0 : (0 : Int) ≤ (j2 : Int) := by omega
              have hjD2 : decide ((j2 : Int) < (m2 : Int)) = true := by simp; omega
              have hlbs : lb < wr.heap.size := by obtain ⟨c, hc⟩ := hsp.blk; exact blk_lt hc
              have HK := Lib.hid (fun W => mark_calls (i : Int) W)
              clear hsp ho hvv he
              go_wp2_with fail
              go_region_with (first
                | (go_at_call 49; refine (HK.out _).mono ?_; rintro e w5 ⟨rfl, hb5⟩; have hf5 : Fresh wr w5 := (((Only.refl wr fun _ => False).drew).trans (Only.of_below hb5 (S := fun _ => False) fun b h1 h2 => absurd h2 (Nat.not_lt.2 h1)) fun _ q => q.elim); have k3 := (hf5.cel2 (p := ⟨lb, i * 4 + 3, none⟩) hlbs).trans c3; have k0 := (hf5.cel2 (p := ⟨g, j2, none⟩) z2).trans z0; have k1 : w5.frozen? ⟨g, j2, none⟩ = false := (World.frozen?_of_block (w := wr) (hf5.block g z2 fun q => q)).trans z1; have HF5 := Lib.hid hf5; clear hf5 hb5))
              all_goals
                go_wp2_with fail
                go_roundw
                case rel =>
                  refine ⟨j2 + 1, by omega, by go_num, ?_, (HS4.out.2.trans HF5.out fun _ q => q.elim).setCell (.inl (.inr ⟨i, hlt, by rw [HE.out]; rfl⟩)) _⟩
                  have hlen : j2 < (V i).length := by
                    have := HS.out.1.lv i hlt
                    rw [spoil_len] at this
                    rw [this, ← HM2.out]; exact hlj2
                  rw [← spoilM_step hlen]
                  exact (HS4.out.1.fresh HF5.out).setV _ hlt (by rw [HE.out]; rfl)
                case measure => simp [intOf]; omega
            · obtain rfl : j2 = m2 := by omega
              have hjD2 : decide ((j2 : Int) < (j2 : Int)) = false := by simp
              rw [hvv] at c3
              have hsp2 := hsp
              have hi2 := HS.out.2.2
              have hme : spoilM fV V i j2 = spoil fV V (i + 2) := by
                have hlen : (V i).length = j2 := by
                  have := HS.out.1.lv i hlt
                  rw [spoil_len] at this
                  rw [this, ← HM2.out]
                rw [← hlen]; exact spoilM_end hi2
              rw [hme] at hsp2
              have HS5 := Lib.hid (And.intro hsp2 (And.intro ho hi2))
              clear hsp ho hvv hsp2 hi2 hme
              go_wp2_with fail
              go_roundw
              case rel => exact ⟨i + 2, by omega, by have := HS5.out.2.2; omega, by go_num, HS5.out.1, HS5.out.2.1⟩
              case measure => simp [intOf]; omega
    · have hlD : decide ((i : Int) < (n : Int)) = false := by simp; omega
      obtain ⟨K1, hK1⟩ : ∃ K1, K1 = spoil fK K i := ⟨_, rfl⟩
      obtain ⟨V1, hV1⟩ : ∃ V1, V1 = spoil fV V i := ⟨_, rfl⟩
      rw [← hK1, ← hV1] at hsp
      have hK1e : ∀ k, k < n → K1 k = if k % 2 = 0 then List.replicate (K k).length (fK k) else K k := fun k hk => by rw [hK1]; exact spoil_end (by omega) hk
      have hV1e : ∀ k, k < n → V1 k = if k % 2 = 0 then List.replicate (V k).length (fV k) else V k := fun k hk => by rw [hV1]; exact spoil_end (by omega) hk
      have HK1 := Lib.hid (And.intro hK1e (And.intro hV1e (And.intro ho hsp)))
      clear hK1e hV1e
      have HA0 := Lib.hid (Ap.start (fk := gK) (fv := gV) hsp.lay hsp.keys hsp.vals (Only.refl wo _))
      have HLK := Lib.hid hsp.lk
      have HLV := Lib.hid hsp.lv
      have hbo : base ≤ wo.heap.size := Nat.le_trans hbs ho.size
      clear hsp ho hi2 HS hK1 hV1
      go_wp2_with fail
      go_loopw [8, 9, 10] (fun s8 s9 s10 wr => ∃ (i t : Nat) (ak av : Nat → Value), i = 2 * t ∧ i ≤ n + 1 ∧ s10 = .int .i64 i ∧ Ap wo wr base lb n q vk vv K1 V1 gK gV t 0 0 t t ak av s8 s9) (fun _ _ s10 _ => n + 2 - (intOf s10).toNat)
      case atStart => exact ⟨0, 0, vk, vv, rfl, Nat.zero_le _, rfl, HA0.out⟩
      case round =>
        obtain ⟨wp, rfl⟩ : ∃ wp : World, wp = wr := ⟨_, rfl⟩
        clear hlD hlt hi
        obtain ⟨i, t, ak, av, hit, hi, rfl, hap⟩ := hrel
        obtain ⟨A8, C8, rfl⟩ := own_slice hap.r8
        obtain ⟨A9, C9, rfl⟩ := own_slice hap.r9
        have HAP := Lib.hid (And.intro hap hit)
        by_cases hlt : i < n
        · have hlI : (i : Int) < (n : Int) := by omega
          have hl0 : (0 : Int) ≤ (i : Int) := by omega
          have hlD : decide ((i : Int) < (n : Int)) = true := by simp; omega
          have c2 := hap.lay.c2 i hlt
          have c3 := hap.lay.c3 i hlt
          obtain ⟨Ak, Ck, hvk⟩ := own_slice (HK1.out.2.2.2.keys.own i hlt)
          obtain ⟨Av, Cv, hvv⟩ := own_slice (HK1.out.2.2.2.vals.own i hlt)
          rw [hvk] at c2
          rw [hvv] at c3
          have hek := hap.ek i hlt (by unfold goneN; rw [if_neg (by omega)]; split <;> rfl)
          have hev := hap.ev i hlt (by unfold goneN; rw [if_neg (by omega)]; split <;> rfl)
          rw [hvk] at hek
          rw [hvv] at hev
          obtain ⟨mK, hmK⟩ : ∃ m, m = (K1 i).length := ⟨_, rfl⟩
          obtain ⟨mV, hmV⟩ : ∃ m, m = (V1 i).length := ⟨_, rfl⟩
          have hmK1 : mK ≤ 16777216 := by rw [hmK, HLK.out i hlt]; exact HMK.out i hlt
          have hmV1 : mV ≤ 16777216 := by rw [hmV, HLV.out i hlt]; exact HMV.out i hlt
          rw [← hmK] at c2 hek
          rw [← hmV] at c3 hev
          have HM := Lib.hid (And.intro hmK (And.intro hmV (And.intro hek hev)))
          clear hmK hmV hek hev hvk hvv hap hit
          go_wp2_with fail
          go_loopw [11, 12, 13] (fun s11 s12 s13 wr => ∃ (j : Nat) (ak av : Nat → Value), j ≤ 64 ∧ s13 = .int .i64 j ∧ s11 = ak i ∧ s12 = av i ∧ Ap wo wr base lb n q vk vv K1 V1 gK gV t j j t t ak av (.slice A8 t C8) (.slice A9 t C9)) (fun _ _ s13 _ => 64 - (intOf s13).toNat)
          case atStart => exact ⟨0, ak, av, Nat.zero_le _, rfl, HM.out.2.2.1.symm, HM.out.2.2.2.symm, HAP.out.1⟩
          case round =>
            obtain ⟨j, ak2, av2, hj, rfl, e11, e12, hap⟩ := hrel
            have hoK := hap.gk.fam.own i hlt
            have hoV := hap.gv.fam.own i hlt
            obtain ⟨t2, ht2⟩ : ∃ t2, t2 = t := ⟨_, rfl⟩
            have hyK : yK gK K1 t j i = K1 i ++ List.replicate j (gK i) := by rw [HAP.out.2]; exact yK_at _ _ _ _
            have hyV : yK gV V1 t j i = V1 i ++ List.replicate j (gV i) := by rw [HAP.out.2]; exact yK_at _ _ _ _
            obtain ⟨mk2, hmk2⟩ : ∃ m, m = mK + j := ⟨_, rfl⟩
            obtain ⟨mv2, hmv2⟩ : ∃ m, m = mV + j := ⟨_, rfl⟩
            rw [hyK, show (K1 i ++ List.replicate j (gK i)).length = mk2 by rw [hmk2, HM.out.1]; simp] at hoK
            rw [hyV, show (V1 i ++ List.replicate j (gV i)).length = mv2 by rw [hmv2, HM.out.2.1]; simp] at hoV
            obtain ⟨Aj, Cj, hak⟩ := own_slice hoK
            obtain ⟨Bj, Dj, hav⟩ := own_slice hoV
            rw [hak] at e11 hoK
            rw [hav] at e12 hoV
            subst e11
            subst e12
            have hmk3 : mk2 ≤ 16777280 := by omega
            have hmv3 : mv2 ≤ 16777280 := by omega
            have HO := Lib.hid (And.intro hap (And.intro hoK (And.intro hak (And.intro hav (And.intro hmk2 hmv2)))))
            have hbr : base ≤ wr.heap.size := by have := hap.only.size; omega
            clear hap hoK hoV hyK hyV hak hav hmk2 hmv2 ht2
            by_cases hlj : j < 64
            · have hjI : (j : Int) < 64 := by omega
              have hjD : decide ((j : Int) < 64) = true := by simp; omega
              go_wp2_with (at_builtin; (refine wpl_appk rfl _ _ 27 rfl base 3 i0 (.int .i64 0) 8 Try.underlying27 HIN.out.1 HIN.out.2.1 HIN.out.2.2.1 HIN.out.2.2.2 rfl (.slice Aj mk2 Cj) mk2 (K1 i ++ List.replicate j (gK i)) rfl (row_fresh HO.out.2.1 (alloc_only _ _)) wr.heap.size (gK i) 3 (0, 0) rfl (new_blk _) rfl (by unfold maxLen; omega) (by omega) (by simp; omega) ?_); intro A4 C4 w4 hown hgrow hat; have HW := Lib.hid (And.intro hown (And.intro hgrow hat)); clear hown hgrow hat)
              have hA1 := HO.out.1.addK (alloc_only _ _) (m := mk2) hlt HAP.out.2 (Nat.le_refl _) (by rw [HO.out.2.2.2.2.1, HM.out.1]) HW.out.1 (by rw [HO.out.2.2.1]; exact HW.out.2.1) (by rw [HO.out.2.2.1]; exact HW.out.2.2)
              have HA1 := Lib.hid hA1
              clear hA1
              refine (mark_calls (-(i : Int)) w4).mono ?_
              rintro e w5 ⟨rfl, hb5⟩
              have hf5 : Fresh w4 w5 := Only.of_below hb5 fun b h1 h2 => absurd h2 (Nat.not_lt.2 h1)
              have HA2 := Lib.hid (HA1.out.fresh hf5)
              have hoV : w5.ownsRow base 9 1 (.slice Bj mv2 Dj) mv2 (V1 i ++ List.replicate j (gV i)) := by
                have h1 := HA2.out.gv.fam.own i hlt
                have hyV : yK gV V1 t j i = V1 i ++ List.replicate j (gV i) := by rw [HAP.out.2]; exact yK_at _ _ _ _
                rw [hyV, show (V1 i ++ List.replicate j (gV i)).length = mv2 by rw [HO.out.2.2.2.2.2, HM.out.2.1]; simp, HO.out.2.2.2.1] at h1
                exact h1
              have HOV := Lib.hid hoV
              have hbr5 : base ≤ w5.heap.size := by have := HA2.out.only.size; omega
              clear hb5 hf5 hoV
              go_wp2_with (at_builtin; (refine wpl_appk rfl _ _ 28 rfl base 9 i1 (.string ⟨#[]⟩) 16 Try.underlying28 HIS.out.1 HIS.out.2.1 HIS.out.2.2.1 HIS.out.2.2.2 rfl (.slice Bj mv2 Dj) mv2 (V1 i ++ List.replicate j (gV i)) rfl (row_fresh HOV.out (alloc_only _ _)) w5.heap.size (gV i) 9 (0, 0) rfl (new_blk _) rfl (by unfold maxLen; omega) (by omega) (by simp; omega) ?_); intro A6 C6 w6 hown hgrow hat; have HW6 := Lib.hid (And.intro hown (And.intro hgrow hat)); clear hown hgrow hat)
              have hA3 := HA2.out.addV (alloc_only _ _) (m := mv2) hlt HAP.out.2 (Nat.le_refl _) (by rw [HO.out.2.2.2.2.2, HM.out.2.1]) HW6.out.1 (by rw [HO.out.2.2.2.1]; exact HW6.out.2.1) (by rw [HO.out.2.2.2.1]; exact HW6.out.2.2)
              have HA3 := Lib.hid hA3
              clear hA3
              go_roundw
              case rel => exact ⟨j + 1, _, _, by omega, by go_num, by rw [if_pos rfl], by rw [if_pos rfl], HA3.out⟩
              case measure => simp [intOf]; omega
            · obtain rfl : j = 64 := by omega
              have ht8 : t ≤ 16777216 := by have := HAP.out.2; omega
              have hwr : wo.heap.size ≤ wr.heap.size := HO.out.1.only.size
              have HR8 := Lib.hid HO.out.1.r8
              have hD64 : decide ((64 : Int) < 64) = false := by decide
              go_wp2_with (first
                | (at_builtin; (refine wpl_appk rfl _ _ 116 rfl wo.heap.size 27 i2 (.slice none 0 0) 24 Try.underlying116 HII.out.1 HII.out.2.1 HII.out.2.2.1 HII.out.2.2.2 rfl (.slice A8 t C8) t ((List.range t).map fun s => ak2 (2 * s)) rfl (row_fresh HR8.out (alloc_only _ _)) wr.heap.size (.slice Aj mk2 Cj) 27 (0, 0) rfl (new_blk _) rfl (by unfold maxLen; omega) (by omega) (by simp; omega) ?_); intro A4 C4 w4 hown hgrow hat; have HA1 := Lib.hid (HO.out.1.add8 (alloc_only _ _) (by rw [← HAP.out.2]; exact HO.out.2.2.1.symm) hown hgrow); clear hown hgrow hat; have hw4 : wo.heap.size ≤ w4.heap.size := HA1.out.only.size; have HR9 := Lib.hid HA1.out.r9)
                | (at_builtin; (refine wpl_appk rfl _ _ 117 rfl wo.heap.size 28 i3 (.slice none 0 0) 24 Try.underlying117 HSS.out.1 HSS.out.2.1 HSS.out.2.2.1 HSS.out.2.2.2 rfl (.slice A9 t C9) t ((List.range t).map fun s => av2 (2 * s)) rfl (row_fresh HR9.out (alloc_only _ _)) w4.heap.size (.slice Bj mv2 Dj) 28 (0, 0) rfl (new_blk _) rfl (by unfold maxLen; omega) (by omega) (by simp; omega) ?_); intro A6 C6 w6 hown hgrow hat; have HW6 := Lib.hid (And.intro hown (And.intro hgrow hat)); clear hown hgrow hat))
              have hA3 := HA1.out.add9 (alloc_only _ _) (by rw [← HAP.out.2]; exact HO.out.2.2.2.1.symm) HW6.out.1 HW6.out.2.1
              have HA3 := Lib.hid hA3.next
              clear hA3
              go_roundw
              case rel => exact ⟨i + 2, t + 1, _, _, by have := HAP.out.2; omega, by omega, by go_num, HA3.out⟩
              case measure => simp [intOf]; omega
        · have hlD : decide ((i : Int) < (n : Int)) = false := by simp; omega
          have HNI := Lib.hid (Nat.le_of_not_lt hlt)
          clear hap hit
          go_wp2_with fail
          go_loopw [14] (fun s14 wr => ∃ p : Nat, p ≤ n ∧ s14 = .int .i64 p ∧ Fresh wp wr) (fun s14 _ => n - (intOf s14).toNat)
          case atStart => exact ⟨0, Nat.zero_le _, rfl, Only.refl _ _⟩
          case round =>
            obtain ⟨ws, rfl⟩ : ∃ ws : World, ws = wr := ⟨_, rfl⟩
            clear hlD hlt hi
            obtain ⟨p, hp, rfl, hf⟩ := hrel
            have HF := Lib.hid hf
            have HA := Lib.hid (HAP.out.1.fresh hf)
            have HOW := Lib.hid (((HK1.out.2.2.1).trans' HAP.out.1.only).trans hf fun _ q => q.elim)
            clear hf
            by_cases hpn : p < n
            · have hpI : (p : Int) < (n : Int) := by omega
              have hp0 : (0 : Int) ≤ (p : Int) := by omega
              have hpD : decide ((p : Int) < (n : Int)) = true := by simp; omega
              have hpW : (p : Int) < (nw : Int) := by omega
              have d0 := HA.out.lay.c0 p hpn
              have d1 := HA.out.lay.c1 p hpn
              have d2 := HA.out.lay.c2 p hpn
              have d3 := HA.out.lay.c3 p hpn
              by_cases hodd : p % 2 = 1
              · obtain ⟨r, e0, e1, eK, eV, hwt⟩ := HWT.out p hpn hodd
                obtain ⟨A2, c2', A3, c3', ⟨x0, x1, x2, x3⟩, hin⟩ := hwt ws HOW.out
                have hK := HA.out.gk.fam.own p hpn
                have hV := HA.out.gv.fam.own p hpn
                have hz : goneN t 0 p = 0 := goneN_zero (by omega) (by omega)
                have hKe : yK gK K1 t 0 p = intsV r.f2 := by unfold yK; rw [hz, HK1.out.1 p hpn, if_neg (by omega), eK]; simp
                have hVe : yK gV V1 t 0 p = strsV r.f3 := by unfold yK; rw [hz, HK1.out.2.1 p hpn, if_neg (by omega), eV]; simp
                rw [hKe, HA.out.ek p hpn hz, show (intsV r.f2).length = r.f2.length by simp] at hK
                rw [hVe, HA.out.ev p hpn hz, show (strsV r.f3).length = r.f3.length by simp] at hV
                obtain ⟨Ak, Ck, hvk⟩ := own_slice hK
                obtain ⟨Av, Cv, hvv⟩ := own_slice hV
                rw [hvk] at hK d2
                rw [hvv] at hV d3
                rw [← e0] at d0
                rw [← e1] at d1
                have hr1 := own_reads1 (h1 := fun _ => rfl) hK
                have hr2 := own_reads1 (h1 := fun _ => rfl) hV
                have hin2 : RepIn ws r Ak Ck Av Cv := ⟨hr1.2, hr1.1, hr2.2, hr2.1⟩
                have HE := Lib.hid (fun W (hb : Below ws.heap.size ws W) => eqreply_calls W r (hin2.below hb) (hin.below hb))
                unfold repV at HE
                have hrem := odd_tmod hodd
                clear hin hin2 hr1 hr2 hK hV hKe hVe hvk hvv e0 e1 eK eV hwt hz hodd
                go_wp2_with fail
                clear hrem
                refine wp_region_still_tail 8 (by kernel_rfl) (by kernel_rfl) ?_
                simp only [List.take_succ_cons, List.take_zero, List.drop_succ_cons, List.drop_zero]
                repeat still_step
                refine wpStill_nil ?_
                go_wp2_with fail
                refine (HE.out _ (below_drew1 (Below.refl _ _))).mono ?_
                rintro e w5 ⟨rfl, hb5⟩
                have hf5 : Fresh ws w5 := Only.of_below ((below_drew1 (Below.refl ws.heap.size ws)).trans hb5) fun b h1 h2 => absurd h2 (Nat.not_lt.2 h1)
                have HF5 := Lib.hid (HF.out.trans' hf5)
                clear hb5 hf5
                go_wp2_with fail
                go_roundw
                case rel => exact ⟨p + 1, by omega, by go_num, HF5.out⟩
                case measure => simp [intOf]; omega
              · have heven : p % 2 = 0 := by omega
                have hpt : p < 2 * t := by have := HAP.out.2; have := HNI.out; omega
                obtain ⟨s, hs⟩ : ∃ s, p = 2 * s := ⟨p / 2, by omega⟩
                have hst : s < t := by omega
                have hs9 : s ≤ 16777216 := by omega
                obtain ⟨g8, _, he8, z8, _, _⟩ := own_cell HA.out.r8 (i := s) (x := ak p) (by rw [List.getElem?_map, List.getElem?_range hst, hs]; rfl)
                obtain ⟨g9, _, he9, z9, _, _⟩ := own_cell HA.out.r9 (i := s) (x := av p) (by rw [List.getElem?_map, List.getElem?_range hst, hs]; rfl)
                have hA8 : A8 = some ⟨g8, 0, none⟩ := by injection he8
                have hA9 : A9 = some ⟨g9, 0, none⟩ := by injection he9
                clear he8 he9
                subst hA8
                subst hA9
                have hKp := HK1.out.2.2.2.keys.own p hpn
                have hVp := HK1.out.2.2.2.vals.own p hpn
                obtain ⟨m, hm⟩ : ∃ m, m = (K1 p).length := ⟨_, rfl⟩
                obtain ⟨m2, hm2⟩ : ∃ m, m = (V1 p).length := ⟨_, rfl⟩
                rw [← hm] at hKp
                rw [← hm2] at hVp
                obtain ⟨Ak, Ck, hvk⟩ := own_slice hKp
                obtain ⟨Av, Cv, hvv⟩ := own_slice hVp
                rw [hvk] at hKp d2
                rw [hvv] at hVp d3
                have hKr : K1 p = List.replicate m (fK p) := by
                  have h1 := HK1.out.1 p hpn
                  rw [if_pos heven] at h1
                  rw [hm, h1, List.length_replicate]
                have hVr : V1 p = List.replicate m2 (fV p) := by
                  have h1 := HK1.out.2.1 p hpn
                  rw [if_pos heven] at h1
                  rw [hm2, h1, List.length_replicate]
                obtain ⟨ga, ca, m64, hga, hevk⟩ := HAP.out.1.gk.ev hpn heven hpt hKr hvk (own_base hKp).1 (own_base hKp).2
                obtain ⟨gb, cb, n64, hgb, hevv⟩ := HAP.out.1.gv.ev hpn heven hpt hVr hvv (own_base hVp).1 (own_base hVp).2
                rw [hga] at z8
                rw [hgb] at z9
                have hm3 : m ≤ 16777216 := by rw [hm, HLK.out p hpn]; exact HMK.out p hpn
                have hm4 : m2 ≤ 16777216 := by rw [hm2, HLV.out p hpn]; exact HMV.out p hpn
                have hstI : (s : Int) < (t : Int) := Int.ofNat_lt.2 hst
                have hs0 : (0 : Int) ≤ (s : Int) := Int.natCast_nonneg s
                have HD2 := Lib.hid (fun W (hW : Fresh wp W) => (show W.cell? ⟨lb, p * 4 + 2, none⟩ = some (.slice Ak m Ck) ∧ W.cell? ⟨lb, p * 4 + 3, none⟩ = some (.slice Av m2 Cv) from ⟨((HAP.out.1.fresh hW).lay.c2 p hpn).trans (by rw [hvk]), ((HAP.out.1.fresh hW).lay.c3 p hpn).trans (by rw [hvv])⟩))
                have HEV := Lib.hid (And.intro hevk hevv)
                have hm64 : m64 = m + 64 := hevk.1
                have hn64 : n64 = m2 + 64 := hevv.1
                have HM64 := Lib.hid (And.intro hm64 hn64)
                have hm64a : m64 ≤ 16777280 := by omega
                have hn64a : n64 ≤ 16777280 := by omega
                have hs2 : s = p / 2 := by omega
                have HPS := Lib.hid (show (p : Int) / 2 = (s : Int) by omega)
                have hrem := even_tmod heven
                clear hs hKp hVp hm hm2 hvk hvv hKr hVr hga hgb hevk hevv hm64 hn64 heven hpt hodd
                rw [hs2] at z8 z9
                clear hs2
                have hpd1 : (p : Int) / 2 < (t : Int) := by rw [HPS.out]; omega
                have hpd0 : (0 : Int) ≤ (p : Int) / 2 := by rw [HPS.out]; omega
                go_wp2_with fail
                clear hrem hs9 hpd1 hpd0
                go_loopw [19] (fun s19 wr => ∃ j : Nat, j ≤ m ∧ s19 = .int .i64 j ∧ Fresh wp wr) (fun s19 _ => m - (intOf s19).toNat)
                case atStart => exact ⟨0, Nat.zero_le _, rfl, HF.out⟩
                case round =>
                  obtain ⟨wt, rfl⟩ : ∃ wt : World, wt = wr := ⟨_, rfl⟩
                  obtain ⟨j, hj, rfl, hf⟩ := hrel
                  have HF7 := Lib.hid hf
                  clear d0 d1 d2 d3 z8 z9
                  obtain ⟨d2, d3⟩ := HD2.out wt hf
                  by_cases hjm : j < m
                  · obtain ⟨g, hAk, z1⟩ := (HEV.out.1.2 wt hf).1 j hjm
                    have z2 := (HEV.out.1.2 wt hf).2 j (by have := HM64.out.1; omega)
                    rw [if_pos hjm] at z2
                    subst hAk
                    have hjI : (j : Int) < (m : Int) := by omega
                    have hj0 : (0 : Int) ≤ (j : Int) := by omega
                    have hjD : decide ((j : Int) < (m : Int)) = true := by simp; omega
                    have hjI2 : (j : Int) < (m64 : Int) := by have := HM64.out.1; omega
                    clear hf
                    go_wp2_with fail
                    go_roundw
                    case rel => exact ⟨j + 1, by omega, by go_num, HF7.out⟩
                    case measure => simp [intOf]; omega
                  · obtain rfl : j = m := by omega
                    have hjD : decide ((j : Int) < (j : Int)) = false := by simp
                    clear hf
                    go_wp2_with fail
                    go_loopw [20] (fun s20 wr => ∃ j : Nat, j ≤ m2 ∧ s20 = .int .i64 j ∧ Fresh wp wr) (fun s20 _ => m2 - (intOf s20).toNat)
                    case atStart => exact ⟨0, Nat.zero_le _, rfl, HF7.out⟩
                    case round =>
                      obtain ⟨wu, rfl⟩ : ∃ wu : World, wu = wr := ⟨_, rfl⟩
                      obtain ⟨j2, hj2, rfl, hf⟩ := hrel
                      have HF8 := Lib.hid hf
                      clear d2 d3
                      obtain ⟨d2, d3⟩ := HD2.out wu hf
                      by_cases hjm2 : j2 < m2
                      · obtain ⟨g, hAv, z1⟩ := (HEV.out.2.2 wu hf).1 j2 hjm2
                        have z2 := (HEV.out.2.2 wu hf).2 j2 (by have := HM64.out.2; omega)
                        rw [if_pos hjm2] at z2
                        subst hAv
                        have hjI : (j2 : Int) < (m2 : Int) := by omega
                        have hj0 : (0 : Int) ≤ (j2 : Int) := by omega
                        have hjD2 : decide ((j2 : Int) < (m2 : Int)) = true := by simp; omega
                        have hjI2 : (j2 : Int) < (n64 : Int) := by have := HM64.out.2; omega
                        have HZ := Lib.hid (fun W (hW : Fresh wu W) => (show W.cell? ⟨lb, p * 4 + 3, none⟩ = some (.slice (some ⟨g, 0, none⟩) m2 Cv) ∧ W.cell? ⟨g, j2, none⟩ = some (fV p) ∧ W.cell? ⟨gb, j2, none⟩ = some (fV p) from ⟨(hW.cel2 (World.block_lt_of_cell? _ _ d3)).trans d3, (hW.cel2 (World.block_lt_of_cell? _ _ z1)).trans z1, (hW.cel2 (World.block_lt_of_cell? _ _ z2)).trans z2⟩))
                        have HK := Lib.hid (fun W => mark_calls (p : Int) W)
                        clear hf
                        go_wp2_with fail
                        have HF4 := Lib.hid (show Fresh wu wu.drew from (Only.refl _ _).drew)
                        refine wp_region_held (S := fun w' => Fresh wu w') (by kernel_rfl) ?_
                        refine wpAnyH_take (i := 0) (v := .slice (some ⟨lb, 0, none⟩) n C) rfl (by kernel_rfl) (by kernel_rfl) (by kernel_rfl) (fun _ _ _ h => h) (Or.inl ⟨by kernel_rfl, fun w' hw' => by go_light; obtain ⟨k1, k2, k3⟩ := HZ.out w' hw'; go_simp⟩) HF4.out ?_
                        refine wpAnyH_take (i := 1) (v := .int .i64 (p : Int)) rfl (by kernel_rfl) (by kernel_rfl) (by kernel_rfl) (fun _ _ _ h => h) (Or.inl ⟨by kernel_rfl, fun w' hw' => by go_light; obtain ⟨k1, k2, k3⟩ := HZ.out w' hw'; go_simp⟩) HF4.out ?_
                        refine wpAnyH_take (i := 2) (v := .pointer (some ⟨lb, p * 4, none⟩)) rfl (by kernel_rfl) (by kernel_rfl) (by kernel_rfl) (fun _ _ _ h => h) (Or.inl ⟨by kernel_rfl, fun w' hw' => by go_light; obtain ⟨k1, k2, k3⟩ := HZ.out w' hw'; go_simp⟩) HF4.out ?_
                        refine wpAnyH_take (i := 3) (v := .pointer (some ⟨lb, p * 4 + 3, none⟩)) rfl (by kernel_rfl) (by kernel_rfl) (by kernel_rfl) (fun _ _ _ h => h) (Or.inl ⟨by kernel_rfl, fun w' hw' => by go_light; obtain ⟨k1, k2, k3⟩ := HZ.out w' hw'; go_simp⟩) HF4.out ?_
                        refine wpAnyH_take (i := 4) (v := .slice (some ⟨g, 0, none⟩) m2 Cv) rfl (by kernel_rfl) (by kernel_rfl) (by kernel_rfl) (fun _ _ _ h => h) (Or.inl ⟨by kernel_rfl, fun w' hw' => by go_light; obtain ⟨k1, k2, k3⟩ := HZ.out w' hw'; go_simp⟩) HF4.out ?_
                        refine wpAnyH_take (i := 5) (v := .int .i64 (j2 : Int)) rfl (by kernel_rfl) (by kernel_rfl) (by kernel_rfl) (fun _ _ _ h => h) (Or.inl ⟨by kernel_rfl, fun w' hw' => by go_light; obtain ⟨k1, k2, k3⟩ := HZ.out w' hw'; go_simp⟩) HF4.out ?_
                        refine wpAnyH_take (i := 6) (v := .pointer (some ⟨g, j2, none⟩)) rfl (by kernel_rfl) (by kernel_rfl) (by kernel_rfl) (fun _ _ _ h => h) (Or.inl ⟨by kernel_rfl, fun w' hw' => by go_light; obtain ⟨k1, k2, k3⟩ := HZ.out w' hw'; go_simp⟩) HF4.out ?_
                        refine wpAnyH_take (i := 7) (v := fV p) rfl (by kernel_rfl) (by kernel_rfl) (by kernel_rfl) (fun _ _ _ h => h) (Or.inl ⟨by kernel_rfl, fun w' hw' => by go_light; obtain ⟨k1, k2, k3⟩ := HZ.out w' hw'; go_simp⟩) HF4.out ?_
                        refine wpAnyH_take (i := 8) (v := .int .i64 (p : Int)) rfl (by kernel_rfl) (by kernel_rfl) (by kernel_rfl) (fun _ _ _ h => h) (Or.inl ⟨by kernel_rfl, fun w' hw' => by go_light; obtain ⟨k1, k2, k3⟩ := HZ.out w' hw'; go_simp⟩) HF4.out ?_
                        refine wpAnyH_step (i := 9) (by kernel_rfl) rfl (by kernel_rfl) ?_
                        intro Kq hK
                        go_simp
                        refine (HK.out _).mono ?_
                        rintro e v5 ⟨rfl, hb⟩
                        have HFv5 := Lib.hid (show Fresh wu v5 from (HF4.out).trans' (Only.of_below hb fun b h1 h2 => absurd h2 (Nat.not_lt.2 h1)))
                        clear hb
                        refine hK _ _ HFv5.out ?_
                        clear hK Kq
                        refine wpAnyH_take (i := 10) (v := .bool false) rfl (by kernel_rfl) (by kernel_rfl) (by kernel_rfl) (fun _ _ _ h => h) (Or.inl ⟨by kernel_rfl, fun w' hw' => by go_light; obtain ⟨k1, k2, k3⟩ := HZ.out w' hw'; go_simp⟩) HFv5.out ?_
                        refine wpAnyH_take (i := 11) (v := .bool false) rfl (by kernel_rfl) (by kernel_rfl) (by kernel_rfl) (fun _ _ _ h => h) (Or.inl ⟨by kernel_rfl, fun w' hw' => by go_light; obtain ⟨k1, k2, k3⟩ := HZ.out w' hw'; go_simp⟩) HFv5.out ?_
                        refine wpAnyH_take (i := 12) (v := .slice (some ⟨gb, 0, none⟩) n64 cb) rfl (by kernel_rfl) (by kernel_rfl) (by kernel_rfl) (fun _ _ _ h => h) (Or.inl ⟨by kernel_rfl, fun w' hw' => by go_light; obtain ⟨k1, k2, k3⟩ := HZ.out w' hw'; go_simp⟩) HFv5.out ?_
                        refine wpAnyH_take (i := 13) (v := .int .i64 (j2 : Int)) rfl (by kernel_rfl) (by kernel_rfl) (by kernel_rfl) (fun _ _ _ h => h) (Or.inl ⟨by kernel_rfl, fun w' hw' => by go_light; obtain ⟨k1, k2, k3⟩ := HZ.out w' hw'; go_simp⟩) HFv5.out ?_
                        refine wpAnyH_take (i := 14) (v := .pointer (some ⟨gb, j2, none⟩)) rfl (by kernel_rfl) (by kernel_rfl) (by kernel_rfl) (fun _ _ _ h => h) (Or.inl ⟨by kernel_rfl, fun w' hw' => by go_light; obtain ⟨k1, k2, k3⟩ := HZ.out w' hw'; go_simp⟩) HFv5.out ?_
                        refine wpAnyH_take (i := 15) (v := fV p) rfl (by kernel_rfl) (by kernel_rfl) (by kernel_rfl) (fun _ _ _ h => h) (Or.inl ⟨by kernel_rfl, fun w' hw' => by go_light; obtain ⟨k1, k2, k3⟩ := HZ.out w' hw'; go_simp⟩) HFv5.out ?_
                        refine wpAnyH_take (i := 16) (v := .int .i64 (p : Int)) rfl (by kernel_rfl) (by kernel_rfl) (by kernel_rfl) (fun _ _ _ h => h) (Or.inl ⟨by kernel_rfl, fun w' hw' => by go_light; obtain ⟨k1, k2, k3⟩ := HZ.out w' hw'; go_simp⟩) HFv5.out ?_
                        refine wpAnyH_step (i := 17) (by kernel_rfl) rfl (by kernel_rfl) ?_
                        intro Kq hK
                        go_simp
                        refine (HK.out _).mono ?_
                        rintro e v6 ⟨rfl, hb⟩
                        have HFv6 := Lib.hid (show Fresh wu v6 from (HFv5.out).trans' (Only.of_below hb fun b h1 h2 => absurd h2 (Nat.not_lt.2 h1)))
                        clear hb
                        refine hK _ _ HFv6.out ?_
                        clear hK Kq
                        refine wpAnyH_take (i := 18) (v := .bool false) rfl (by kernel_rfl) (by kernel_rfl) (by kernel_rfl) (fun _ _ _ h => h) (Or.inl ⟨by kernel_rfl, fun w' hw' => by go_light; obtain ⟨k1, k2, k3⟩ := HZ.out w' hw'; go_simp⟩) HFv6.out ?_
                        refine wpAnyH_take (i := 19) (v := .bool false) rfl (by kernel_rfl) (by kernel_rfl) (by kernel_rfl) (fun _ _ _ h => h) (Or.inl ⟨by kernel_rfl, fun w' hw' => by go_light; obtain ⟨k1, k2, k3⟩ := HZ.out w' hw'; go_simp⟩) HFv6.out ?_
                        refine wpAnyH_done (by kernel_rfl) ?_ _
                        go_wp2_with fail
                        go_roundw
                        case rel => exact ⟨j2 + 1, by omega, by go_num, HF8.out.trans' HFv6.out⟩
                        case measure => simp [intOf]; omega
                      · obtain rfl : j2 = m2 := by omega
                        have hjD2 : decide ((j2 : Int) < (j2 : Int)) = false := by simp
                        clear hf
                        go_wp2_with fail
                        go_loopw [21] (fun s21 wr => ∃ j : Nat, j ≤ 64 ∧ s21 = .int .i64 j ∧ Fresh wp wr) (fun s21 _ => 64 - (intOf s21).toNat)
                        case atStart => exact ⟨0, Nat.zero_le _, rfl, HF8.out⟩
                        case round =>
                          obtain ⟨wv, rfl⟩ : ∃ wv : World, wv = wr := ⟨_, rfl⟩
                          obtain ⟨x, hx, rfl, hf⟩ := hrel
                          have HF9 := Lib.hid hf
                          clear d2 d3
                          by_cases hx64 : x < 64
                          · obtain ⟨y1, hy1⟩ : ∃ y, y = j + x := ⟨_, rfl⟩
                            obtain ⟨y2, hy2⟩ : ∃ y, y = j2 + x := ⟨_, rfl⟩
                            have z1 := (HEV.out.1.2 wv hf).2 y1 (by have := HM64.out.1; omega)
                            have z2 := (HEV.out.2.2 wv hf).2 y2 (by have := HM64.out.2; omega)
                            rw [if_neg (by omega)] at z1 z2
                            have hxI : (x : Int) < 64 := by omega
                            have hxD : decide ((x : Int) < 64) = true := by simp; omega
                            have hy0 : (0 : Int) ≤ (y1 : Int) := by omega
                            have hy02 : (0 : Int) ≤ (y2 : Int) := by omega
                            have hyL : (y1 : Int) < (m64 : Int) := by have := HM64.out.1; omega
                            have hyL2 : (y2 : Int) < (n64 : Int) := by have := HM64.out.2; omega
                            have HZ := Lib.hid (fun W (hW : Fresh wv W) => (show W.cell? ⟨ga, y1, none⟩ = some (gK p) ∧ W.cell? ⟨gb, y2, none⟩ = some (gV p) from ⟨(hW.cel2 (World.block_lt_of_cell? _ _ z1)).trans z1, (hW.cel2 (World.block_lt_of_cell? _ _ z2)).trans z2⟩))
                            have HK := Lib.hid (fun W => mark_calls (-(p : Int)) W)
                            have HW1 := Lib.hid (show IntKind.i64.wrap ((j : Int) + (x : Int)) = (y1 : Int) by rw [IntKind.wrap_i64]; omega)
                            have HW2 := Lib.hid (show IntKind.i64.wrap ((j2 : Int) + (x : Int)) = (y2 : Int) by rw [IntKind.wrap_i64]; omega)
                            have HW3 := Lib.hid (show IntKind.i64.wrap (-1000 - (p : Int)) = -1000 - (p : Int) by rw [IntKind.wrap_i64]; omega)
                            have HW4 := Lib.hid (show IntKind.i64.wrap (-(p : Int)) = -(p : Int) by rw [IntKind.wrap_i64]; omega)
                            clear hf hy1 hy2 z1 z2
                            go_wp2_with fail
                            have HF4 := Lib.hid (show Fresh wv wv.drew from (Only.refl _ _).drew)
                            refine wp_region_held (S := fun w' => Fresh wv w') (by kernel_rfl) ?_
                            refine wpAnyH_take (i := 0) (v := .slice (some ⟨ga, 0, none⟩) m64 ca) rfl (by kernel_rfl) (by kernel_rfl) (by kernel_rfl) (fun _ _ _ h => h) (Or.inl ⟨by kernel_rfl, fun w' hw' => by go_light; go_simp⟩) HF4.out ?_
                            refine wpAnyH_take (i := 1) (v := .int .i64 (j : Int)) rfl (by kernel_rfl) (by kernel_rfl) (by kernel_rfl) (fun _ _ _ h => h) (Or.inl ⟨by kernel_rfl, fun w' hw' => by go_light; go_simp⟩) HF4.out ?_
                            refine wpAnyH_take (i := 2) (v := .int .i64 (x : Int)) rfl (by kernel_rfl) (by kernel_rfl) (by kernel_rfl) (fun _ _ _ h => h) (Or.inl ⟨by kernel_rfl, fun w' hw' => by go_light; go_simp⟩) HF4.out ?_
                            refine wpAnyH_take (i := 3) (v := .int .i64 (y1 : Int)) rfl (by kernel_rfl) (by kernel_rfl) (by kernel_rfl) (fun _ _ _ h => h) (Or.inl ⟨by kernel_rfl, fun w' hw' => by go_light; have hw := HW1.out; go_simp⟩) HF4.out ?_
                            refine wpAnyH_take (i := 4) (v := .pointer (some ⟨ga, y1, none⟩)) rfl (by kernel_rfl) (by kernel_rfl) (by kernel_rfl) (fun _ _ _ h => h) (Or.inl ⟨by kernel_rfl, fun w' hw' => by go_light; go_simp⟩) HF4.out ?_
                            refine wpAnyH_take (i := 5) (v := gK p) rfl (by kernel_rfl) (by kernel_rfl) (by kernel_rfl) (fun _ _ _ h => h) (Or.inl ⟨by kernel_rfl, fun w' hw' => by go_light; obtain ⟨k1, k2⟩ := HZ.out w' hw'; go_simp⟩) HF4.out ?_
                            refine wpAnyH_take (i := 6) (v := .int .i64 (p : Int)) rfl (by kernel_rfl) (by kernel_rfl) (by kernel_rfl) (fun _ _ _ h => h) (Or.inl ⟨by kernel_rfl, fun w' hw' => by go_light; go_simp⟩) HF4.out ?_
                            refine wpAnyH_take (i := 7) (v := gK p) rfl (by kernel_rfl) (by kernel_rfl) (by kernel_rfl) (fun _ _ _ h => h) (Or.inl ⟨by kernel_rfl, fun w' hw' => by go_light; have hw := HW3.out; go_simp⟩) HF4.out ?_
                            refine wpAnyH_take (i := 8) (v := .bool false) rfl (by kernel_rfl) (by kernel_rfl) (by kernel_rfl) (fun _ _ _ h => h) (Or.inl ⟨by kernel_rfl, fun w' hw' => by go_light; go_simp⟩) HF4.out ?_
                            refine wpAnyH_take (i := 9) (v := .bool false) rfl (by kernel_rfl) (by kernel_rfl) (by kernel_rfl) (fun _ _ _ h => h) (Or.inl ⟨by kernel_rfl, fun w' hw' => by go_light; go_simp⟩) HF4.out ?_
                            refine wpAnyH_take (i := 10) (v := .slice (some ⟨gb, 0, none⟩) n64 cb) rfl (by kernel_rfl) (by kernel_rfl) (by kernel_rfl) (fun _ _ _ h => h) (Or.inl ⟨by kernel_rfl, fun w' hw' => by go_light; go_simp⟩) HF4.out ?_
                            refine wpAnyH_take (i := 11) (v := .int .i64 (j2 : Int)) rfl (by kernel_rfl) (by kernel_rfl) (by kernel_rfl) (fun _ _ _ h => h) (Or.inl ⟨by kernel_rfl, fun w' hw' => by go_light; go_simp⟩) HF4.out ?_
                            refine wpAnyH_take (i := 12) (v := .int .i64 (x : Int)) rfl (by kernel_rfl) (by kernel_rfl) (by kernel_rfl) (fun _ _ _ h => h) (Or.inl ⟨by kernel_rfl, fun w' hw' => by go_light; go_simp⟩) HF4.out ?_
                            refine wpAnyH_take (i := 13) (v := .int .i64 (y2 : Int)) rfl (by kernel_rfl) (by kernel_rfl) (by kernel_rfl) (fun _ _ _ h => h) (Or.inl ⟨by kernel_rfl, fun w' hw' => by go_light; have hw := HW2.out; go_simp⟩) HF4.out ?_
                            refine wpAnyH_take (i := 14) (v := .pointer (some ⟨gb, y2, none⟩)) rfl (by kernel_rfl) (by kernel_rfl) (by kernel_rfl) (fun _ _ _ h => h) (Or.inl ⟨by kernel_rfl, fun w' hw' => by go_light; go_simp⟩) HF4.out ?_
                            refine wpAnyH_take (i := 15) (v := gV p) rfl (by kernel_rfl) (by kernel_rfl) (by kernel_rfl) (fun _ _ _ h => h) (Or.inl ⟨by kernel_rfl, fun w' hw' => by go_light; obtain ⟨k1, k2⟩ := HZ.out w' hw'; go_simp⟩) HF4.out ?_
                            refine wpAnyH_take (i := 16) (v := .int .i64 (p : Int)) rfl (by kernel_rfl) (by kernel_rfl) (by kernel_rfl) (fun _ _ _ h => h) (Or.inl ⟨by kernel_rfl, fun w' hw' => by go_light; go_simp⟩) HF4.out ?_
                            refine wpAnyH_take (i := 17) (v := .int .i64 (-(p : Int))) rfl (by kernel_rfl) (by kernel_rfl) (by kernel_rfl) (fun _ _ _ h => h) (Or.inl ⟨by kernel_rfl, fun w' hw' => by go_light; have hw := HW4.out; go_simp⟩) HF4.out ?_
                            refine wpAnyH_step (i := 18) (by kernel_rfl) rfl (by kernel_rfl) ?_
                            intro Kq hK
                            go_simp
                            refine (HK.out _).mono ?_
                            rintro e v5 ⟨rfl, hb⟩
                            have HFv5 := Lib.hid (show Fresh wv v5 from (HF4.out).trans' (Only.of_below hb fun b h1 h2 => absurd h2 (Nat.not_lt.2 h1)))
                            clear hb
                            refine hK _ _ HFv5.out ?_
                            clear hK Kq
                            refine wpAnyH_take (i := 19) (v := .bool false) rfl (by kernel_rfl) (by kernel_rfl) (by kernel_rfl) (fun _ _ _ h => h) (Or.inl ⟨by kernel_rfl, fun w' hw' => by go_light; go_simp⟩) HFv5.out ?_
                            refine wpAnyH_take (i := 20) (v := .bool false) rfl (by kernel_rfl) (by kernel_rfl) (by kernel_rfl) (fun _ _ _ h => h) (Or.inl ⟨by kernel_rfl, fun w' hw' => by go_light; go_simp⟩) HFv5.out ?_
                            refine wpAnyH_done (by kernel_rfl) ?_ _
                            go_wp2_with fail
                            go_roundw
                            case rel => exact ⟨x + 1, by omega, by go_num, HF9.out.trans' HFv5.out⟩
                            case measure => simp [intOf]; omega
                          · obtain rfl : x = 64 := by omega
                            have hxD : decide ((64 : Int) < 64) = false := by decide
                            clear hf
                            go_wp2_with fail
                            go_roundw
                            case rel => exact ⟨p + 1, by omega, by go_num, HF9.out⟩
                            case measure => simp [intOf]; omega
            · obtain rfl : p = n := by omega
              have hpD : decide ((p : Int) < (p : Int)) = false := by simp
              go_wp2_with fail
              go_ret
              exact ⟨rfl, HOW.out⟩
theorem own_cellN {w : World} {base n size : Nat} {e : TypeId} {v : Value} {xs : List Value} (h : w.ownsRow base e size v n xs) {i : Nat} {x : Value} (hx : xs[i]? = some x) : ∃ g c, v = .slice (some ⟨g, 0, none⟩) n c ∧ w.cell? ⟨g, i, none⟩ = some x ∧ g < w.heap.size := by
  rcases h.2 with ⟨_, rfl⟩ | ⟨g, cap, cur, rfl, _, hg, _⟩
  · have h1 := h.1
    have hl := (List.getElem?_eq_some_iff.1 hx).1
    simp at h1
    subst h1
    simp at hl
  · refine ⟨g, cap, rfl, ?_, blk_lt hg⟩
    have hc := h.cells (g := g) rfl i x hx
    rwa [Addr.add_lit, Nat.zero_add] at hc
def dIt : It := ⟨⟨false, ⟨#[]⟩, [], []⟩, .slice none 0 0, .slice none 0 0⟩
def itAt (F : List It) (k : Nat) : It := F.getD k dIt
theorem itAt_get {F : List It} {k : Nat} (h : k < F.length) : F[k]? = some (itAt F k) := by unfold itAt; rw [List.getD_eq_getElem?_getD, List.getElem?_eq_getElem h]; rfl
theorem itAt_mem {F : List It} {k : Nat} (h : k < F.length) : itAt F k ∈ F := List.mem_of_getElem? (itAt_get h)
/-- an answer's cells -/
theorem row_its {w : World} {v : Value} {F : List It} (h : w.ownsRow 0 50 4 v F.length (F.flatMap itC)) {g C : Nat} (hv : v = .slice (some ⟨g, 0, none⟩) F.length C) {k : Nat} (hk : k < F.length) :
    w.cell? ⟨g, k * 4, none⟩ = some (.bool (itAt F k).r.f0) ∧ w.cell? ⟨g, k * 4 + 1, none⟩ = some (.string (itAt F k).r.f1) ∧ w.cell? ⟨g, k * 4 + 2, none⟩ = some (itAt F k).k ∧ w.cell? ⟨g, k * 4 + 3, none⟩ = some (itAt F k).v := by
  have hc : ∀ j x, j < 4 → (itC (itAt F k))[j]? = some x → w.cell? ⟨g, k * 4 + j, none⟩ = some x := fun j x hj hx => by
    obtain ⟨g', c, he, h1, _⟩ := own_cellN h ((flat4 F (itAt_get hk) hj).trans hx)
    rw [hv] at he
    injection he with he
    injection he with he
    injection he with he
    subst he
    exact h1
  exact ⟨hc 0 _ (by decide) rfl, hc 1 _ (by decide) rfl, hc 2 _ (by decide) rfl, hc 3 _ (by decide) rfl⟩
section
variable {w w' : World} {tg tg' : Nat → Nat} {F W : List It}
theorem fam_tag {t : Nat} (hr : KR t w tg F) {b : Nat} (h : SpS F.length (fun k => (itAt F k).k) (fun k => (itAt F k).v) b) : tg b = t := by
  rcases h with ⟨k, hk, q⟩ | ⟨k, hk, q⟩
  · exact hr.tk _ (itAt_mem hk) b q
  · exact hr.tv _ (itAt_mem hk) b q
theorem pair_far {F : List It} {R : It → It → Prop} (h : F.Pairwise R) {j k : Nat} (hj : j < F.length) (hk : k < F.length) (hjk : j < k) : R (itAt F j) (itAt F k) := by
  have h1 := List.pairwise_iff_getElem.1 h j k hj hk hjk
  have e1 : itAt F j = F[j] := by have := itAt_get hj; rw [List.getElem?_eq_getElem hj] at this; injection this with this; exact this.symm
  have e2 : itAt F k = F[k] := by have := itAt_get hk; rw [List.getElem?_eq_getElem hk] at this; injection this with this; exact this.symm
  rw [e1, e2]; exact h1
theorem kept_sp {lb C : Nat} (hL : w.ownsRow 0 50 4 (.slice (some ⟨lb, 0, none⟩) F.length C) F.length (F.flatMap itC)) (hr : KR 8 w tg F) (ha : KA F) :
    Sp w 0 lb F.length (fun k => ((itAt F k).r.f0, (itAt F k).r.f1)) (fun k => (itAt F k).k) (fun k => (itAt F k).v) (fun k => (itAt F k).r.f2.length) (fun k => (itAt F k).r.f3.length) (fun k => intsV (itAt F k).r.f2) (fun k => strsV (itAt F k).r.f3) := by
  obtain ⟨cells, hc⟩ := own_cells hL rfl
  have hx := fun k hk => row_its hL rfl (k := k) hk
  refine ⟨⟨cells, hc⟩, fun k hk => (hx k hk).1, fun k hk => (hx k hk).2.1, fun k hk => (hx k hk).2.2.1, fun k hk => (hx k hk).2.2.2, fun k _ => by simp, fun k _ => by simp, ⟨fun k hk => ?_, fun j k hj hk hjk g q q2 => ?_⟩, ⟨fun k hk => ?_, fun j k hj hk hjk g q q2 => ?_⟩⟩
  · simpa using hr.fk _ (itAt_mem hk)
  · rcases Nat.lt_or_gt_of_ne hjk with r | r
    · exact pair_far ha.ak hj hk r g q q2
    · exact pair_far ha.ak hk hj r g q2 q
  · simpa using hr.fv _ (itAt_mem hk)
  · rcases Nat.lt_or_gt_of_ne hjk with r | r
    · exact pair_far ha.av hj hk r g q q2
    · exact pair_far ha.av hk hj r g q2 q
theorem same_r {F W : List It} (he : F.map It.r = W.map It.r) {k : Nat} (hk : k < F.length) : k < W.length ∧ (itAt F k).r = (itAt W k).r := by
  have hl : F.length = W.length := by have := congrArg List.length he; simpa using this
  refine ⟨by omega, ?_⟩
  have h1 := congrArg (fun l => l[k]?) he
  simp only [List.getElem?_map, itAt_get hk, itAt_get (show k < W.length by omega)] at h1
  simpa using h1
/-- what an answer should be, readable while only the answers' own blocks turn -/
theorem kept_want {wb D : Nat} (hW : w.ownsRow 0 50 4 (.slice (some ⟨wb, 0, none⟩) W.length D) W.length (W.flatMap itC)) (hwt : tg wb ≠ 8) (hr : KR 8 w tg F) (h9 : KR 9 w tg W) (he : F.map It.r = W.map It.r) {i : Nat} (hi : i < F.length) :
    ∃ r : PRep, r.f0 = (itAt F i).r.f0 ∧ r.f1 = (itAt F i).r.f1 ∧ intsV (itAt F i).r.f2 = intsV r.f2 ∧ strsV (itAt F i).r.f3 = strsV r.f3 ∧ ∀ V, Only w V (SpS F.length (fun k => (itAt F k).k) fun k => (itAt F k).v) → WantAt V wb i r := by
  obtain ⟨hi2, e⟩ := same_r he hi
  refine ⟨(itAt F i).r, rfl, rfl, rfl, rfl, fun V hV => ?_⟩
  have ho : OnT w V tg 8 := hV.mono fun b _ q => fam_tag hr q
  have h9' := h9.far ho (TgX.refl _ _) (by decide)
  have hrow := ho.row hW fun g q (e : tg g = 8) => by
    have q : g = wb := by simpa [Value.ownBlock] using q.symm
    subst q
    exact hwt e
  obtain ⟨c0, c1, c2, c3⟩ := row_its hrow rfl hi2
  have hm := itAt_mem hi2
  obtain ⟨A2, d2, q2⟩ := own_slice (h9'.fk _ hm)
  obtain ⟨A3, d3, q3⟩ := own_slice (h9'.fv _ hm)
  obtain ⟨-, -, hin⟩ := h9'.rep hm q2 q3
  rw [q2] at c2
  rw [q3] at c3
  rw [e]
  exact ⟨A2, d2, A3, d3, ⟨c0, c1, c2, c3⟩, hin⟩
end
set_option maxRecDepth 200000 in
set_option maxHeartbeats 4000000 in
theorem alone_walk {w : World} {tg : Nat → Nat} {kb : Nat} {sum : Int} {vL vW : Value} {F W : List It} (h : KB w tg kb sum vL vW F W) (hr : KR 8 w tg F) (ha : KA F) (h9 : KR 9 w tg W) (he : F.map It.r = W.map It.r) (hF : F.length ≤ 16777216) (hne : 0 < F.length) (hl : ∀ x ∈ F, x.r.f2.length ≤ 16777216 ∧ x.r.f3.length ≤ 16777216) :
    Calls Try.prog 33 #[.pointer (some ⟨kb, 0, none⟩)] w fun e w' => e = .returned (.bool true) ∧ OnT w w' tg 8 := by
  have hu50 := Try.underlying50
  obtain ⟨n, hn⟩ : ∃ n, n = F.length := ⟨_, rfl⟩
  have hnW : n = W.length := by have := congrArg List.length he; simp at this; omega
  obtain ⟨gL, C, hvL, _, _⟩ := own_cellN h.rowL (i := 0) ((flat4 F (k := 0) (j := 0) (itAt_get hne) (by decide)).trans rfl)
  obtain ⟨gW, D, hvW, _, _⟩ := own_cellN h.rowW (i := 0) ((flat4 W (k := 0) (j := 0) (itAt_get (show 0 < W.length by omega)) (by decide)).trans rfl)
  rw [← hn] at hvL
  rw [← hnW] at hvW
  subst hvL
  subst hvW
  have H := Lib.hid (And.intro h (And.intro hr (And.intro ha (And.intro h9 (And.intro he (And.intro hl (And.intro hn hnW)))))))
  have hbl := blk_lt h.blk
  have hn16 : n ≤ 16777216 := by omega
  have hn0 : 0 < n := by omega
  clear h hr ha h9 he hF hne hl hn hnW
  go_enter Try.func33, Try.ntmps33
  go_wp2_with fail
  go_loopw [3] (fun s3 wr => ∃ i : Nat, i ≤ n ∧ s3 = .int .i64 i ∧ Fresh w wr) (fun s3 _ => n - (intOf s3).toNat)
  case atStart => exact ⟨0, Nat.zero_le _, rfl, Only.refl _ _⟩
  case round =>
    obtain ⟨wo, rfl⟩ : ∃ wo : World, wo = wr := ⟨_, rfl⟩
    obtain ⟨i, hi, rfl, hf⟩ := hrel
    obtain ⟨h, hr, ha, h9, he, hl, hn, hnW⟩ := H.out
    have hk := h.fresh hf
    have hr' := hr.fresh hf
    have h9' := h9.fresh hf
    have y0 : wo.cell? ⟨kb, 0, none⟩ = some (.slice (some ⟨gL, 0, none⟩) n C) := blk_cell hk.blk rfl
    have y1 : wo.cell? ⟨kb, 1, none⟩ = some (.slice (some ⟨gW, 0, none⟩) n D) := blk_cell hk.blk rfl
    have yl := blk_lt hk.blk
    have HF := Lib.hid (And.intro hf (And.intro hk (And.intro hr' h9')))
    by_cases hlt : i < n
    · have hiI : (i : Int) < (n : Int) := by omega
      have hi0 : (0 : Int) ≤ (i : Int) := by omega
      have hiD : decide ((i : Int) < (n : Int)) = true := by simp; omega
      have hi1 : i < F.length := by omega
      obtain ⟨hi2, e⟩ := same_r he hi1
      have hm1 := itAt_mem hi1
      have hm2 := itAt_mem hi2
      have hrL := hk.rowL
      have hrW := hk.rowW
      obtain ⟨c0, c1, c2, c3⟩ := row_its hrL (by rw [← hn]) hi1
      obtain ⟨d0, d1, d2, d3⟩ := row_its hrW (by rw [← hnW]) hi2
      obtain ⟨A2, a2, q2⟩ := own_slice (hr'.fk _ hm1)
      obtain ⟨A3, a3, q3⟩ := own_slice (hr'.fv _ hm1)
      obtain ⟨B2, b2, q4⟩ := own_slice (h9'.fk _ hm2)
      obtain ⟨B3, b3, q5⟩ := own_slice (h9'.fv _ hm2)
      obtain ⟨-, -, hin⟩ := hr'.rep hm1 q2 q3
      obtain ⟨-, -, hin2⟩ := h9'.rep hm2 q4 q5
      rw [q2] at c2
      rw [q3] at c3
      rw [q4] at d2
      rw [q5] at d3
      rw [← e] at d0 d1 d2 d3 hin2
      generalize (itAt F i).r = r at c0 c1 c2 c3 d0 d1 d2 d3 hin hin2
      have HE := Lib.hid (fun V (hb : Below wo.heap.size wo V) => eqreply_calls V r (hin.below hb) (hin2.below hb))
      unfold repV at HE
      clear h hr ha h9 he hl hn hnW hk hr' h9' hf e hm1 hm2 hrL hrW q2 q3 q4 q5 hin hin2 hi1 hi2
      go_wp2_with fail
      refine wp_region_still_tail 14 (by kernel_rfl) (by kernel_rfl) ?_
      simp only [List.take_succ_cons, List.take_zero, List.drop_succ_cons, List.drop_zero]
      repeat still_step
      refine wpStill_nil ?_
      go_wp2_with fail
      refine (HE.out _ (below_drew1 (Below.refl _ _))).mono ?_
      rintro e w5 ⟨rfl, hb5⟩
      have hf5 : Fresh wo w5 := Only.of_below ((below_drew1 (Below.refl wo.heap.size wo)).trans hb5) fun b h1 h2 => absurd h2 (Nat.not_lt.2 h1)
      have HF5 := Lib.hid (HF.out.1.trans' hf5)
      clear hb5 hf5
      go_wp2_with fail
      go_roundw
      case rel => exact ⟨i + 1, by omega, by go_num, HF5.out⟩
      case measure => simp [intOf]; omega
    · obtain rfl : i = n := by omega
      have hiD : decide ((i : Int) < (i : Int)) = false := by simp
      have hL := hk.rowL
      rw [show (Value.slice (some ⟨gL, 0, none⟩) i C) = .slice (some ⟨gL, 0, none⟩) F.length C by rw [hn]] at hL
      have hsp := kept_sp hL hr' ha
      have HSP := Lib.hid (fun (V : World) (hb : Fresh wo V) => (show Calls Try.prog 22 #[.slice (some ⟨gL, 0, none⟩) i C, .slice (some ⟨gW, 0, none⟩) i D] V fun e w' => e = .returned (.bool true) ∧ OnT V w' tg 8 from by
        have hW := (hk.fresh hb).rowW
        rw [show (Value.slice (some ⟨gW, 0, none⟩) i D) = .slice (some ⟨gW, 0, none⟩) W.length D by rw [hnW]] at hW
        have ht : tg gW ≠ 8 := by rw [hk.tW gW rfl]; decide
        have h1 := spoilt_walk V 0 gL F.length C _ _ _ _ _ _ _ (.slice (some ⟨gW, 0, none⟩) W.length D) (hsp.fresh hb) (Nat.zero_le _) (by omega) (fun k hk => (hl _ (itAt_mem hk)).1) (fun k hk => (hl _ (itAt_mem hk)).2) gW W.length D rfl (by omega) (fun k hk _ => kept_want hW ht (hr'.fresh hb) (h9'.fresh hb) he hk)
        rw [show (Value.slice (some ⟨gL, 0, none⟩) F.length C) = .slice (some ⟨gL, 0, none⟩) i C by rw [hn], show (Value.slice (some ⟨gW, 0, none⟩) W.length D) = .slice (some ⟨gW, 0, none⟩) i D by rw [hnW]] at h1
        exact h1.mono fun e w' ⟨q1, q2⟩ => ⟨q1, q2.mono fun b _ q => fam_tag (hr'.fresh hb) q⟩))
      clear h hr ha h9 he hl hn hnW hk hr' h9' hf hL hsp
      go_wp2_with fail
      refine wp_region_still_tail 8 (by kernel_rfl) (by kernel_rfl) ?_
      simp only [List.take_succ_cons, List.take_zero, List.drop_succ_cons, List.drop_zero]
      repeat still_step
      refine wpStill_nil ?_
      go_wp2_with fail
      refine (HSP.out _ ((Only.refl _ _).drew)).mono ?_
      rintro e w5 ⟨rfl, ho⟩
      have HO := Lib.hid (((fresh_onT (tg := tg) (t := 8) HF.out.1).drew).trans' ho)
      clear ho
      go_wp2_with fail
      go_ret
      exact ⟨rfl, HO.out⟩
/-- the same tables, later -/
def AC.at (c : AC) (w : World) (tg : Nat → Nat) (La Lb : List (Int × ByteArray)) : AC := { c with w0 := w, tg0 := tg, La := La, Lb := Lb }
/-- the tags are apart; the lists rise -/
structure AC.Fit (c : AC) : Prop where
  tags : (c.t1 = 1 ∧ c.t2 = 2 ∧ c.t3 = 3 ∧ c.t4 = 4) ∨ (c.t1 = 2 ∧ c.t2 = 1 ∧ c.t3 = 4 ∧ c.t4 = 3)
  ra : (c.La.map (·.1)).Pairwise (· < ·)
  rb : (c.Lb.map (·.1)).Pairwise (· < ·)
theorem AC.Fit.swap {c : AC} (h : c.Fit) : c.swap.Fit := ⟨by
  show (c.t2 = 1 ∧ c.t1 = 2 ∧ c.t4 = 3 ∧ c.t3 = 4) ∨ (c.t2 = 2 ∧ c.t1 = 1 ∧ c.t4 = 4 ∧ c.t3 = 3)
  have := h.tags
  omega, h.rb, h.ra⟩
theorem AC.Fit.ok {c : AC} (h : c.Fit) (la : c.La.length ≤ 1048576) (lb : c.Lb.length ≤ 1048576) : c.Ok := ⟨h.tags, h.ra, h.rb, la, lb⟩
theorem fresh_tag {V0 w w' : World} {tg : Nat → Nat} {S : Nat → Prop} (f : Fresh V0 w) (z : ∀ b, b < V0.heap.size → tg b = 0) (ho : Only w w' S) (hs : ∀ b, S b → tg b ≠ 0) : Fresh V0 w' := f.trans ho fun b q => .inr (Nat.le_of_not_lt fun r => hs b q (z b r))
theorem zero_tag {V0 w : World} {tg tg' : Nat → Nat} (f : Fresh V0 w) (z : ∀ b, b < V0.heap.size → tg b = 0) (hx : TgX w tg tg') : ∀ b, b < V0.heap.size → tg' b = 0 := fun b hb => (hx b (Nat.lt_of_lt_of_le hb f.size)).trans (z b hb)
/-- the state between two calls -/
structure MSt (V0 : World) (c : AC) (sum : Int) (vL vW : Value) (F W : List It) (Ls : List (Nat × Obj)) : Prop where
  st : ASt c c.w0 c.tg0 sum vL vW F W [] [] Ls
  fit : c.Fit
  r8 : KR 8 c.w0 c.tg0 F
  ka : KA F
  r9 : KR 9 c.w0 c.tg0 W
  same : F.map It.r = W.map It.r
  fl : ∀ x ∈ F, x.r.f2.length ≤ 1048576 ∧ x.r.f3.length ≤ 1048576
  z : ∀ b, b < V0.heap.size → c.tg0 b = 0
  f : Fresh V0 c.w0
section
variable {V0 : World} {c : AC} {sum : Int} {vL vW : Value} {F W : List It} {Ls : List (Nat × Obj)}
theorem MSt.swap (h : MSt V0 c sum vL vW F W Ls) : MSt V0 c.swap sum vL vW F W Ls := ⟨h.st.swap, h.fit.swap, h.r8, h.ka, h.r9, h.same, h.fl, h.z, h.f⟩
/-- the state's parts make it -/
theorem ASt.mk0 {c : AC} {w : World} {tg : Nat → Nat} {La Lb : List (Int × ByteArray)} (cl : Cl w tg) (pa : PTab w tg c.t1 c.ta La) (pb : PTab w tg c.t2 c.tb Lb) (qa : RTb w tg c.t3 c.ra La) (qb : RTb w tg c.t4 c.rb Lb) (kb : KB w tg c.kb sum vL vW F W) (loc : ∀ p ∈ Ls, w.heap[p.1]? = some p.2 ∧ tg p.1 = 0) :
    ASt (c.at w tg La Lb) (c.at w tg La Lb).w0 (c.at w tg La Lb).tg0 sum vL vW F W [] [] Ls :=
  ⟨cl, pa, pb, qa, qb, kb, KR.nil _ _ _, KA.nil, fun _ q => (by cases q), KR.nil _ _ _, Only.refl _ _, TgX.refl _ _, loc⟩
theorem MSt.alloc (h : MSt V0 c sum vL vW F W Ls) (o : Obj) : MSt V0 (c.at (c.w0.alloc o) c.tg0 c.La c.Lb) sum vL vW F W ((c.w0.heap.size, o) :: Ls) := by
  have hs := h.st.alloc o
  have hf : Fresh c.w0 (c.w0.alloc o) := (Only.refl _ _).alloc _
  exact ⟨ASt.mk0 hs.cl hs.pa hs.pb hs.qa hs.qb hs.kb hs.loc, ⟨h.fit.tags, h.fit.ra, h.fit.rb⟩, h.r8.fresh hf, h.ka, h.r9.fresh hf, h.same, h.fl, h.z, h.f.trans' hf⟩
theorem MSt.fresh {w' : World} (h : MSt V0 c sum vL vW F W Ls) (hf : Fresh c.w0 w') : MSt V0 (c.at w' c.tg0 c.La c.Lb) sum vL vW F W Ls := by
  have hs := h.st.fresh hf
  exact ⟨ASt.mk0 hs.cl hs.pa hs.pb hs.qa hs.qb hs.kb hs.loc, ⟨h.fit.tags, h.fit.ra, h.fit.rb⟩, h.r8.fresh hf, h.ka, h.r9.fresh hf, h.same, h.fl, h.z, h.f.trans' hf⟩
theorem MSt.asked {e : Ending} {w' : World} (h : MSt V0 c sum vL vW F W Ls) (ha : AsksPost c True sum F W e w') : e = .returned (.bool true) ∧ ∃ tg' sum' vL' vW' F' W', MSt V0 (c.at w' tg' c.La c.Lb) sum' vL' vW' F' W' Ls ∧ F'.length = F.length + 4 ∧ sum ≤ sum' ∧ sum' ≤ sum + 4194304 := by
  obtain ⟨he, tg', sum', vL', vW', X, Y, cl, pa, pb, qa, qb, kb, hX, hXY, hb, s1, s2, hx, ho, hP⟩ := ha
  obtain ⟨g1, g2, g3⟩ := hP trivial
  refine ⟨he, tg', sum', vL', vW', F ++ X, W ++ Y, ⟨ASt.mk0 cl pa pb qa qb kb fun p q => ?_, ⟨h.fit.tags, h.fit.ra, h.fit.rb⟩, g1, g2, g3, by rw [List.map_append, List.map_append, h.same, hXY], fun x q => (List.mem_append.1 q).elim (h.fl x) (hb x), zero_tag h.f h.z hx, fresh_tag h.f h.z ho fun b q => by omega⟩, by rw [List.length_append, hX], s1, s2⟩
  obtain ⟨h1, h2⟩ := h.st.loc p q
  exact ⟨ho.blk h1 fun q => by omega, (hx _ (blk_lt h1)).trans h2⟩
/-- between a call of the program's table and the document's -/
structure Mid (V0 : World) (c : AC) (w : World) (tg : Nat → Nat) (sum : Int) (vL vW : Value) (F W : List It) (Ls : List (Nat × Obj)) (o : POp) (x : It) : Prop where
  cl : Cl w tg
  pa : PTab w tg c.t1 c.ta (tabOf c.La o)
  pb : PTab w tg c.t2 c.tb c.Lb
  qa : RTb w tg c.t3 c.ra c.La
  qb : RTb w tg c.t4 c.rb c.Lb
  kb : KB w tg c.kb sum vL vW F W
  rx : KR 8 w tg [x]
  r8 : KR 8 w tg F
  r9 : KR 9 w tg W
  loc : ∀ p ∈ Ls, w.heap[p.1]? = some p.2 ∧ tg p.1 = 0
  z : ∀ b, b < V0.heap.size → tg b = 0
  f : Fresh V0 w
theorem Mid.fresh {w w' : World} {tg : Nat → Nat} {o : POp} {x : It} (h : Mid V0 c w tg sum vL vW F W Ls o x) (hf : Fresh w w') : Mid V0 c w' tg sum vL vW F W Ls o x :=
  ⟨h.cl.mono hf.size, h.pa.fresh hf, h.pb.fresh hf, h.qa.fresh hf, h.qb.fresh hf, h.kb.fresh hf, h.rx.fresh hf, h.r8.fresh hf, h.r9.fresh hf, fun p q => ⟨hf.blk (h.loc p q).1 fun q => q, (h.loc p q).2⟩, h.z, h.f.trans' hf⟩
theorem Mid.alloc {w : World} {tg : Nat → Nat} {o : POp} {x : It} (h : Mid V0 c w tg sum vL vW F W Ls o x) (ob : Obj) : Mid V0 c (w.alloc ob) tg sum vL vW F W ((w.heap.size, ob) :: Ls) o x := by
  have hf : Fresh w (w.alloc ob) := (Only.refl _ _).alloc _
  have h' := h.fresh hf
  refine ⟨h'.cl, h'.pa, h'.pb, h'.qa, h'.qb, h'.kb, h'.rx, h'.r8, h'.r9, fun p q => ?_, h'.z, h'.f⟩
  rcases List.mem_cons.1 q with q | q
  · subst q
    exact ⟨new_blk ob, h.cl _ (Nat.le_refl _)⟩
  · exact h'.loc p q
theorem MSt.does (h : MSt V0 c sum vL vW F W Ls) (hl : c.La.length ≤ 1048576) (o : POp) :
    Calls Try.prog 32 #[.pointer (some ⟨c.ta, 0, none⟩), .agg #[.int .i64 o.f0, .int .i64 o.f1, .string o.f2]] c.w0 fun e w' =>
      ∃ A2 c2 A3 c3 tg', e = .returned (repV (repOf c.La o) A2 c2 A3 c3) ∧ Mid V0 c w' tg' sum vL vW F W Ls o ⟨repOf c.La o, .slice A2 (repOf c.La o).f2.length c2, .slice A3 (repOf c.La o).f3.length c3⟩ := by
  have htg := h.fit.tags
  have hs := h.st
  refine (does_tag hs.pa h.fit.ra (by omega) o).mono fun e w' ⟨A2, c2, A3, c3, tg', he, k2, k3, t2, t3, hT, hx, hcl, ho⟩ => ?_
  refine ⟨A2, c2, A3, c3, tg', he, hcl, hT, hs.pb.far ho hx (by omega), hs.qa.far ho hx (by omega), hs.qb.far ho hx (by omega), hs.kb.far ho hx (by omega), ?_, h.r8.far ho hx (by omega), h.r9.far ho hx (by omega), fun p q => ?_, zero_tag h.f h.z hx, fresh_tag h.f h.z ho fun b (q : c.tg0 b = c.t1) => by omega⟩
  · exact (KR.nil 8 w' tg').add (x := ⟨repOf c.La o, .slice A2 (repOf c.La o).f2.length c2, .slice A3 (repOf c.La o).f3.length c3⟩) (rown_lower k2 (Nat.zero_le _)) (rown_lower k3 (Nat.zero_le _)) (fun g q => t2 g (by rw [← own_map]; exact q)) fun g q => t3 g (by rw [← own_map]; exact q)
  · obtain ⟨h1, h2⟩ := hs.loc p q
    exact ⟨OnT.blk ho h1 h2 (by omega), (hx _ (blk_lt h1)).trans h2⟩
theorem Mid.do {w : World} {tg : Nat → Nat} {Ls' : List (Nat × Obj)} {o : POp} {A2 : Option Addr} {n2 c2 : Nat} {A3 : Option Addr} {n3 c3 : Nat} (h : MSt V0 c sum vL vW F W Ls) (hm : Mid V0 c w tg sum vL vW F W Ls' o ⟨repOf c.La o, .slice A2 n2 c2, .slice A3 n3 c3⟩) (hl : c.La.length ≤ 1048576) (hok : OpOk o) :
    Calls Try.prog 28 #[.pointer (some ⟨c.ra, 0, none⟩), .agg #[.int .i64 o.f0, .int .i64 o.f1, .string o.f2]] w fun e w' =>
      ∃ B2 b2 B3 b3 tg', e = .returned (repV (repOf c.La o) B2 b2 B3 b3) ∧ RepIn w' (repOf c.La o) B2 b2 B3 b3 ∧ RepIn w' (repOf c.La o) A2 c2 A3 c3 ∧ MSt V0 (c.at w' tg' (tabOf c.La o) c.Lb) sum vL vW F W Ls' := by
  have htg := h.fit.tags
  refine (rdo_tag hm.qa h.fit.ra (by omega) o hok).mono fun e w' ⟨B2, b2, B3, b3, tg', he, hin, hT, hx, hcl, ho⟩ => ?_
  have hrx := hm.rx.far ho hx (by omega)
  obtain ⟨-, -, hin2⟩ := hrx.rep (List.mem_singleton.2 rfl) rfl rfl
  refine ⟨B2, b2, B3, b3, tg', he, hin, hin2, ⟨ASt.mk0 hcl (hm.pa.far ho hx (by omega)) (hm.pb.far ho hx (by omega)) hT (hm.qb.far ho hx (by omega)) (hm.kb.far ho hx (by omega)) fun p q => ?_, ⟨h.fit.tags, tab_rising h.fit.ra, h.fit.rb⟩, hm.r8.far ho hx (by omega), h.ka, hm.r9.far ho hx (by omega), h.same, h.fl, zero_tag hm.f hm.z hx, fresh_tag hm.f hm.z ho fun b (q : tg b = c.t3) => by omega⟩⟩
  obtain ⟨h1, h2⟩ := hm.loc p q
  exact ⟨OnT.blk ho h1 h2 (by omega), (hx _ (blk_lt h1)).trans h2⟩
theorem tab_len {L : List (Int × ByteArray)} {o : POp} : (tabOf L o).length ≤ L.length + 1 := by
  unfold tabOf
  split
  · rw [putL_len]; omega
  · omega
end
theorem nil_row4 (w : World) (base : Nat) (e : TypeId) : w.ownsRow base e 4 (.slice none 0 0) 0 [] := ⟨rfl, .inl ⟨rfl, rfl⟩⟩
/-- how it all begins -/
theorem MSt.start {V0 w : World} {ta tb ra rb kb : Nat} {laba labb : TLab} (h1 : TabAt w ta laba fun _ => none) (h2 : TabAt w tb labb fun _ => none) (hd : ∀ b, laba b ≠ none → labb b = none) (hV : Fresh V0 w) (hVa : ∀ b, laba b ≠ none → V0.heap.size ≤ b) (hVb : ∀ b, labb b ≠ none → V0.heap.size ≤ b) (hVr : V0.heap.size ≤ ra) {Ls : List (Nat × Obj)} (hra : w.heap[ra]? = some (.cells #[.slice none 0 0, .slice none 0 0] 61 (0, 0))) (hrb : w.heap[rb]? = some (.cells #[.slice none 0 0, .slice none 0 0] 61 (0, 0)))
    (hkb : w.heap[kb]? = some (.cells #[.slice none 0 0, .slice none 0 0, .int .i64 0] 70 (0, 0))) (hab : ra < rb) (hbk : rb < kb) (hl : ∀ b, ra ≤ b → laba b = none ∧ labb b = none) (hL : ∀ p ∈ Ls, w.heap[p.1]? = some p.2 ∧ p.1 ≠ ra ∧ p.1 ≠ rb ∧ p.1 ≠ kb ∧ laba p.1 = none ∧ labb p.1 = none) :
    ∃ tg, MSt V0 ⟨1, 2, 3, 4, ta, tb, ra, rb, [], [], kb, w, tg⟩ 0 (.slice none 0 0) (.slice none 0 0) [] [] Ls := by
  have olda : ∀ b, laba b ≠ none → b < w.heap.size := by obtain ⟨bm, f, cs, q⟩ := h1; exact q.old
  have oldb : ∀ b, labb b ≠ none → b < w.heap.size := by obtain ⟨bm, f, cs, q⟩ := h2; exact q.old
  have hkl := blk_lt hkb
  have hbl := blk_lt hrb
  have hal := blk_lt hra
  have e1 : lookL [] = fun _ => none := rfl
  obtain ⟨tg, htg⟩ : ∃ tg : Nat → Nat, tg = fun b => if (laba b).isSome = true then 1 else if (labb b).isSome = true then 2 else if b = ra then 3 else if b = rb then 4 else if b = kb then 5 else 0 := ⟨_, rfl⟩
  have i1 : ∀ b, laba b ≠ none → tg b = 1 := fun b hb => by
    rw [htg]
    simp only
    rw [if_pos (by cases r : laba b with | none => exact absurd r hb | some _ => rfl)]
  have i2 : ∀ b, labb b ≠ none → tg b = 2 := fun b hb => by
    have hn : laba b = none := Classical.byContradiction fun q => hb (hd b q)
    rw [htg]
    simp only
    rw [if_neg (by rw [hn]; simp), if_pos (by cases r : labb b with | none => exact absurd r hb | some _ => rfl)]
  have i0 : ∀ b, laba b = none → labb b = none → tg b = if b = ra then 3 else if b = rb then 4 else if b = kb then 5 else 0 := fun b q1 q2 => by
    rw [htg]
    simp only
    rw [if_neg (by rw [q1]; simp), if_neg (by rw [q2]; simp)]
  have nilr : ∀ {t r : Nat}, w.heap[r]? = some (.cells #[.slice none 0 0, .slice none 0 0] 61 (0, 0)) → r < w.heap.size → tg r = t → RTb w tg t r [] := fun {t r} hr hlt ht =>
    ⟨r + 1, .slice none 0 0, .slice none 0 0, ⟨hr, nil_row _ _ _ _ rfl, nil_row _ _ _ _ rfl, Nat.lt_succ_self r, fun g q => (by cases q), rfl, by simp⟩, hlt, fun b q => by
      rcases q with q | q | q
      · rw [q]; exact ht
      · cases q
      · cases q⟩
  refine ⟨tg, ASt.mk0 (c := ⟨1, 2, 3, 4, ta, tb, ra, rb, [], [], kb, w, tg⟩) (La := []) (Lb := []) (fun b hb => ?_) ⟨laba, by rw [e1]; exact h1, i1⟩ ⟨labb, by rw [e1]; exact h2, i2⟩ (nilr hra hal ?_) (nilr hrb hbl ?_) ⟨hkb, nil_row4 _ _ _, nil_row4 _ _ _, ?_, fun g q => (by cases q), fun g q => (by cases q)⟩ fun p q => ?_, ⟨.inl ⟨rfl, rfl, rfl, rfl⟩, List.Pairwise.nil, List.Pairwise.nil⟩, KR.nil _ _ _, KA.nil, KR.nil _ _ _, rfl, fun _ q => (by cases q), fun b hb => ?_, hV⟩
  · rw [i0 b (Classical.byContradiction fun q => by have := olda b q; omega) (Classical.byContradiction fun q => by have := oldb b q; omega), if_neg (by omega), if_neg (by omega), if_neg (by omega)]
  · rw [i0 ra (hl ra (Nat.le_refl _)).1 (hl ra (Nat.le_refl _)).2, if_pos rfl]
  · rw [i0 rb (hl rb (by omega)).1 (hl rb (by omega)).2, if_neg (by omega), if_pos rfl]
  · show tg kb = 5
    rw [i0 kb (hl kb (by omega)).1 (hl kb (by omega)).2, if_neg (by omega), if_neg (by omega), if_pos rfl]
  · obtain ⟨q1, q2, q3, q4, q5, q6⟩ := hL p q
    exact ⟨q1, by rw [i0 p.1 q5 q6, if_neg q2, if_neg q3, if_neg q4]⟩
  · show tg b = 0
    rw [i0 b (Classical.byContradiction fun q => by have := hVa b q; omega) (Classical.byContradiction fun q => by have := hVb b q; omega), if_neg (by omega), if_neg (by omega), if_neg (by omega)]
section
variable {V0 : World} {c : AC} {sum : Int} {vL vW : Value} {F W : List It} {Ls Ls' : List (Nat × Obj)}
/-- one's own blocks may turn, and be let go -/
theorem MSt.own {w' : World} {q : Nat} (h : MSt V0 c sum vL vW F W Ls) (hq : c.tg0 q = 0) (hV : V0.heap.size ≤ q) (ho : Only c.w0 w' fun b => b = q) (hL : ∀ p ∈ Ls', w'.heap[p.1]? = some p.2 ∧ c.tg0 p.1 = 0) : MSt V0 (c.at w' c.tg0 c.La c.Lb) sum vL vW F W Ls' := by
  have htg := h.fit.tags
  have hs := h.st
  have hx := TgX.refl c.w0 c.tg0
  have hn : ∀ t, t ≠ 0 → ∀ b, c.tg0 b = t → ¬ b = q := fun t ht b e r => by subst r; exact ht (e.symm.trans hq)
  exact ⟨ASt.mk0 (hs.cl.mono ho.size) (hs.pa.keep ho hx (hn _ (by omega))) (hs.pb.keep ho hx (hn _ (by omega))) (hs.qa.keep ho hx (hn _ (by omega))) (hs.qb.keep ho hx (hn _ (by omega))) (hs.kb.keep ho hx fun b e r => by subst r; omega) hL, ⟨htg, h.fit.ra, h.fit.rb⟩, h.r8.keep ho hx (hn _ (by omega)), h.ka, h.r9.keep ho hx (hn _ (by omega)), h.same, h.fl, h.z, h.f.trans ho fun b e => .inr (by subst e; exact hV)⟩
theorem Mid.own {w w' : World} {tg : Nat → Nat} {o : POp} {x : It} {q : Nat} (h : Mid V0 c w tg sum vL vW F W Ls o x) (htg : (c.t1 = 1 ∧ c.t2 = 2 ∧ c.t3 = 3 ∧ c.t4 = 4) ∨ (c.t1 = 2 ∧ c.t2 = 1 ∧ c.t3 = 4 ∧ c.t4 = 3)) (hq : tg q = 0) (hV : V0.heap.size ≤ q) (ho : Only w w' fun b => b = q) (hL : ∀ p ∈ Ls', w'.heap[p.1]? = some p.2 ∧ tg p.1 = 0) : Mid V0 c w' tg sum vL vW F W Ls' o x := by
  have hx := TgX.refl w tg
  have hn : ∀ t, t ≠ 0 → ∀ b, tg b = t → ¬ b = q := fun t ht b e r => by subst r; exact ht (e.symm.trans hq)
  exact ⟨h.cl.mono ho.size, h.pa.keep ho hx (hn _ (by omega)), h.pb.keep ho hx (hn _ (by omega)), h.qa.keep ho hx (hn _ (by omega)), h.qb.keep ho hx (hn _ (by omega)), h.kb.keep ho hx fun b e r => by subst r; omega, h.rx.keep ho hx (hn _ (by omega)), h.r8.keep ho hx (hn _ (by omega)), h.r9.keep ho hx (hn _ (by omega)), hL, h.z, h.f.trans ho fun b e => .inr (by subst e; exact hV)⟩
theorem MSt.sub (h : MSt V0 c sum vL vW F W Ls) (hs : ∀ p ∈ Ls', p ∈ Ls) : MSt V0 c sum vL vW F W Ls' :=
  ⟨⟨h.st.cl, h.st.pa, h.st.pb, h.st.qa, h.st.qb, h.st.kb, h.st.rn, h.st.an, h.st.lo, h.st.rm, h.st.old, h.st.ext, fun p q => h.st.loc p (hs p q)⟩, h.fit, h.r8, h.ka, h.r9, h.same, h.fl, h.z, h.f⟩
theorem MSt.at (h : MSt V0 c sum vL vW F W Ls) (i : Nat) {g : Nat} {o : Obj} (hi : Ls[i]? = some (g, o)) : c.w0.heap[g]? = some o ∧ c.tg0 g = 0 := h.st.loc (g, o) (List.mem_of_getElem? hi)
theorem Mid.at {w : World} {tg : Nat → Nat} {o : POp} {x : It} (h : Mid V0 c w tg sum vL vW F W Ls o x) (i : Nat) {g : Nat} {ob : Obj} (hi : Ls[i]? = some (g, ob)) : w.heap[g]? = some ob ∧ tg g = 0 := h.loc (g, ob) (List.mem_of_getElem? hi)
/-- the answers were written over -/
theorem MSt.spoilt {w' : World} (h : MSt V0 c sum vL vW F W Ls) (ho : OnT c.w0 w' c.tg0 8) : ASt (c.at w' c.tg0 c.La c.Lb) w' c.tg0 sum vL vW F W [] [] Ls ∧ Fresh V0 w' := by
  have htg := h.fit.tags
  have hs := h.st
  have hx := TgX.refl c.w0 c.tg0
  exact ⟨ASt.mk0 (hs.cl.mono ho.size) (hs.pa.far ho hx (by omega)) (hs.pb.far ho hx (by omega)) (hs.qa.far ho hx (by omega)) (hs.qb.far ho hx (by omega)) (hs.kb.far ho hx (by omega)) fun p q => ⟨OnT.blk ho (hs.loc p q).1 (hs.loc p q).2 (by decide), (hs.loc p q).2⟩, fresh_tag h.f h.z ho fun b (q : c.tg0 b = 8) => by omega⟩
theorem MSt.askedFresh {e : Ending} {w' : World} {P : Prop} (hf : Fresh V0 c.w0) (hz : ∀ b, b < V0.heap.size → c.tg0 b = 0) (ha : AsksPost c P sum F W e w') : e = .returned (.bool true) ∧ Fresh V0 w' := by
  obtain ⟨he, tg', sum', vL', vW', X, Y, cl, pa, pb, qa, qb, kb, hX, hXY, hb, s1, s2, hx, ho, hP⟩ := ha
  exact ⟨he, fresh_tag hf hz ho fun b q => by omega⟩
end
theorem repIn_nil {w : World} {r : PRep} {A : Option Addr} {a : Nat} {B : Option Addr} {b : Nat} (h2 : r.f2 = []) (h3 : r.f3 = []) : RepIn w r A a B b := by
  refine ⟨?_, ?_, ?_, ?_⟩
  · rw [h2]; exact Nat.zero_le _
  · rw [h2]; exact ⟨rfl, Nat.zero_le _, fun h => absurd h (Nat.lt_irrefl _)⟩
  · rw [h3]; exact Nat.zero_le _
  · rw [h3]; exact ⟨rfl, Nat.zero_le _, fun h => absurd h (Nat.lt_irrefl _)⟩
section
variable {V0 : World} {c : AC} {sum : Int} {vL vW : Value} {F W : List It} {Ls : List (Nat × Obj)}
theorem Mid.re {w w1 : World} {tg tg1 : Nat → Nat} {o : POp} {x : It} (h : Mid V0 (c.at w1 tg1 c.La c.Lb) w tg sum vL vW F W Ls o x) : Mid V0 c w tg sum vL vW F W Ls o x := ⟨h.cl, h.pa, h.pb, h.qa, h.qb, h.kb, h.rx, h.r8, h.r9, h.loc, h.z, h.f⟩
theorem setRow_only (w : World) (q : Nat) (cs : Array Value) : Only w (w.setRow q cs) fun b => b = q := ⟨rfl, rfl, rfl, by simp, fun b _ hb => setRow_other w q b cs hb⟩
theorem Mid.store {w : World} {tg : Nat → Nat} {o : POp} {it : It} {q : Nat} {x y z u : Value} {ty : TypeId} (h : Mid V0 c w tg sum vL vW F W ((q, .cells #[x, y, z, u] ty (0, 0)) :: Ls) o it) (htg : (c.t1 = 1 ∧ c.t2 = 2 ∧ c.t3 = 3 ∧ c.t4 = 4) ∨ (c.t1 = 2 ∧ c.t2 = 1 ∧ c.t3 = 4 ∧ c.t4 = 3)) (hV : V0.heap.size ≤ q) (hne : ∀ p ∈ Ls, p.1 ≠ q) (a b d e : Value) :
    Mid V0 c (w.setRow q #[a, b, d, e]) tg sum vL vW F W ((q, .cells #[a, b, d, e] ty (0, 0)) :: Ls) o it := by
  refine h.own htg (h.at 0 rfl).2 hV (setRow_only w q #[a, b, d, e]) fun p hp => ?_
  rcases List.mem_cons.1 hp with r | r
  · subst r; exact ⟨setRow_heap _ _ _ _ _ _ (h.at 0 rfl).1, (h.at 0 rfl).2⟩
  · have hl := h.loc p (List.mem_cons_of_mem _ r)
    exact ⟨(setRow_only w q #[a, b, d, e]).blk hl.1 (hne p r), hl.2⟩
theorem MSt.store {q : Nat} {x y z u : Value} {ty : TypeId} (h : MSt V0 c sum vL vW F W ((q, .cells #[x, y, z, u] ty (0, 0)) :: Ls)) (hV : V0.heap.size ≤ q) (hne : ∀ p ∈ Ls, p.1 ≠ q) (a b d e : Value) :
    MSt V0 (c.at (c.w0.setRow q #[a, b, d, e]) c.tg0 c.La c.Lb) sum vL vW F W ((q, .cells #[a, b, d, e] ty (0, 0)) :: Ls) := by
  refine h.own (h.at 0 rfl).2 hV (setRow_only c.w0 q #[a, b, d, e]) fun p hp => ?_
  rcases List.mem_cons.1 hp with r | r
  · subst r; exact ⟨setRow_heap _ _ _ _ _ _ (h.at 0 rfl).1, (h.at 0 rfl).2⟩
  · have hl := h.st.loc p (List.mem_cons_of_mem _ r)
    exact ⟨(setRow_only c.w0 q #[a, b, d, e]).blk hl.1 (hne p r), hl.2⟩
/-- the document's Do; both answers stay readable while one's own blocks turn -/
theorem Mid.doB {w : World} {tg : Nat → Nat} {Ls' : List (Nat × Obj)} {o : POp} {A2 : Option Addr} {n2 c2 : Nat} {A3 : Option Addr} {n3 c3 : Nat} (h : MSt V0 c sum vL vW F W Ls) (hm : Mid V0 c w tg sum vL vW F W Ls' o ⟨repOf c.La o, .slice A2 n2 c2, .slice A3 n3 c3⟩) (hl : c.La.length ≤ 1048576) (hok : OpOk o) :
    Calls Try.prog 28 #[.pointer (some ⟨c.ra, 0, none⟩), .agg #[.int .i64 o.f0, .int .i64 o.f1, .string o.f2]] w fun e w' =>
      ∃ B2 b2 B3 b3 tg', e = .returned (repV (repOf c.La o) B2 b2 B3 b3) ∧ (∀ w'', Only w' w'' (fun b => tg' b = 0) → RepIn w'' (repOf c.La o) B2 b2 B3 b3 ∧ RepIn w'' (repOf c.La o) A2 c2 A3 c3) ∧ MSt V0 (c.at w' tg' (tabOf c.La o) c.Lb) sum vL vW F W Ls' := by
  have htg := h.fit.tags
  by_cases h3 : o.f0 = 3
  · have hrep : repOf c.La o = snR c.La := by unfold repOf; rw [if_neg (by omega), if_neg (by omega)]
    have htab : tabOf c.La o = c.La := by unfold tabOf; rw [if_neg (fun q => by omega)]
    rw [hrep] at hm
    rw [hrep, htab]
    have hpa := hm.pa
    rw [htab] at hpa
    refine (rsnap_tag hm.qa o (by omega) (by omega)).mono fun e w' ⟨B2, b2, B3, b3, tg', he, k2, k3, t2, t3, hT, hx, hcl, hf⟩ => ?_
    have k2' : w'.ownsRow w.heap.size 3 1 (.slice B2 c.La.length b2) (snR c.La).f2.length (intsV (snR c.La).f2) := by simpa [KRow] using k2
    have k3' : w'.ownsRow w.heap.size 9 1 (.slice B3 c.La.length b3) (snR c.La).f3.length (strsV (snR c.La).f3) := by simpa [SRow] using k3
    have hy := (KR.nil 9 w' tg').add (x := snI c.La B2 b2 B3 b3) (rown_lower k2' (Nat.zero_le _)) (rown_lower k3' (Nat.zero_le _)) (fun g q => t2 g (by rw [← own_map]; exact q)) fun g q => t3 g (by rw [← own_map]; exact q)
    have hrx := hm.rx.keep hf hx fun _ _ q => q
    refine ⟨B2, b2, B3, b3, tg', by rw [he]; simp [repV], fun w'' ho => ⟨?_, ?_⟩, ⟨ASt.mk0 hcl (hpa.keep hf hx fun _ _ q => q) (hm.pb.keep hf hx fun _ _ q => q) hT (hm.qb.keep hf hx fun _ _ q => q) (hm.kb.keep hf hx fun _ _ q => q) fun p q => ?_, ⟨htg, h.fit.ra, h.fit.rb⟩, hm.r8.keep hf hx fun _ _ q => q, h.ka, hm.r9.keep hf hx fun _ _ q => q, h.same, h.fl, zero_tag hm.f hm.z hx, hm.f.trans' hf⟩⟩
    · exact ((hy.far (u := 0) ho (TgX.refl _ _) (by decide)).rep (x := snI c.La B2 b2 B3 b3) (by simp) rfl rfl).2.2
    · exact ((hrx.far (u := 0) ho (TgX.refl _ _) (by decide)).rep (List.mem_singleton.2 rfl) rfl rfl).2.2
    · obtain ⟨h1, h2⟩ := hm.loc p q
      exact ⟨hf.blk h1 fun q => q, (hx _ (blk_lt h1)).trans h2⟩
  · have e2 : (repOf c.La o).f2 = [] ∧ (repOf c.La o).f3 = [] := by
      unfold repOf
      rcases hok with q | q | q
      · rw [if_pos q]; exact ⟨rfl, rfl⟩
      · rw [if_neg (by omega), if_pos q]; exact ⟨rfl, rfl⟩
      · exact absurd q h3
    exact (Mid.do h hm hl hok).mono fun e w' ⟨B2, b2, B3, b3, tg', he, _, _, hq⟩ => ⟨B2, b2, B3, b3, tg', he, fun w'' _ => ⟨repIn_nil e2.1 e2.2, repIn_nil e2.1 e2.2⟩, hq⟩
end
/-- the loop's state behind i rounds -/
def Lp (W : World) (ta tb ra rb kb : Nat) (Ls : List (Nat × Obj)) (i : Nat) (w : World) : Prop :=
  ∃ La Lb tg sum vL vW F X, MSt W ⟨1, 2, 3, 4, ta, tb, ra, rb, La, Lb, kb, w, tg⟩ sum vL vW F X Ls ∧ La.length ≤ i ∧ Lb.length ≤ i ∧ F.length ≤ 4 * i ∧ 0 ≤ sum ∧ sum ≤ 4294304
/-- the same, from the side of table p -/
structure Side (W : World) (ta tb ra rb kb : Nat) (Ls : List (Nat × Obj)) (i : Nat) (w : World) (t1 t2 t3 t4 tp tq rp rq : Nat) (La Lb : List (Int × ByteArray)) (tg : Nat → Nat) (sum : Int) (vL vW : Value) (F X : List It) : Prop where
  st : MSt W ⟨t1, t2, t3, t4, tp, tq, rp, rq, La, Lb, kb, w, tg⟩ sum vL vW F X Ls
  la : La.length ≤ i
  lb : Lb.length ≤ i
  fl : F.length ≤ 4 * i
  s0 : 0 ≤ sum
  s1 : sum ≤ 4294304
  back : ∀ {j : Nat} {w' : World} {tg' : Nat → Nat} {La' Lb' : List (Int × ByteArray)} {sum' : Int} {vL' vW' : Value} {F' X' : List It} {Ls' : List (Nat × Obj)}, MSt W ⟨t1, t2, t3, t4, tp, tq, rp, rq, La', Lb', kb, w', tg'⟩ sum' vL' vW' F' X' Ls' → La'.length ≤ j → Lb'.length ≤ j → F'.length ≤ 4 * j → 0 ≤ sum' → sum' ≤ 4294304 → Lp W ta tb ra rb kb Ls' j w'
section
variable {W : World} {ta tb ra rb kb : Nat} {Ls : List (Nat × Obj)} {i : Nat} {w : World}
theorem Lp.side (h : Lp W ta tb ra rb kb Ls i w) {p tp tq rp rq : Nat} (hp : (p = 0 ∧ tp = ta ∧ tq = tb ∧ rp = ra ∧ rq = rb) ∨ (p = 1 ∧ tp = tb ∧ tq = ta ∧ rp = rb ∧ rq = ra)) : ∃ t1 t2 t3 t4 La Lb tg sum vL vW F X, Side W ta tb ra rb kb Ls i w t1 t2 t3 t4 tp tq rp rq La Lb tg sum vL vW F X := by
  obtain ⟨La, Lb, tg, sum, vL, vW, F, X, hm, h1, h2, h3, h4, h5⟩ := h
  rcases hp with ⟨_, rfl, rfl, rfl, rfl⟩ | ⟨_, rfl, rfl, rfl, rfl⟩
  · exact ⟨_, _, _, _, La, Lb, tg, sum, vL, vW, F, X, hm, h1, h2, h3, h4, h5, fun q a b c d e => ⟨_, _, _, _, _, _, _, _, q, a, b, c, d, e⟩⟩
  · exact ⟨_, _, _, _, Lb, La, tg, sum, vL, vW, F, X, hm.swap, h2, h1, h3, h4, h5, fun q a b c d e => ⟨_, _, _, _, _, _, _, _, q.swap, b, a, c, d, e⟩⟩
theorem Lp.alloc (h : Lp W ta tb ra rb kb Ls i w) (o : Obj) : Lp W ta tb ra rb kb ((w.heap.size, o) :: Ls) i (w.alloc o) := by
  obtain ⟨La, Lb, tg, sum, vL, vW, F, X, hm, hr⟩ := h
  exact ⟨La, Lb, tg, sum, vL, vW, F, X, hm.alloc o, hr⟩
theorem Lp.fresh {w' : World} (h : Lp W ta tb ra rb kb Ls i w) (hf : Fresh w w') : Lp W ta tb ra rb kb Ls i w' := by
  obtain ⟨La, Lb, tg, sum, vL, vW, F, X, hm, hr⟩ := h
  exact ⟨La, Lb, tg, sum, vL, vW, F, X, hm.fresh hf, hr⟩
theorem Lp.since (h : Lp W ta tb ra rb kb Ls i w) : Fresh W w := by
  obtain ⟨La, Lb, tg, sum, vL, vW, F, X, hm, hr⟩ := h
  exact hm.f
theorem Lp.at (h : Lp W ta tb ra rb kb Ls i w) (k : Nat) {g : Nat} {o : Obj} (hk : Ls[k]? = some (g, o)) : w.heap[g]? = some o := by
  obtain ⟨La, Lb, tg, sum, vL, vW, F, X, hm, hr⟩ := h
  exact (hm.at k hk).1
theorem Lp.more {j : Nat} {Ls' : List (Nat × Obj)} (h : Lp W ta tb ra rb kb Ls i w) (hij : i ≤ j) (hs : ∀ p ∈ Ls', p ∈ Ls) : Lp W ta tb ra rb kb Ls' j w := by
  obtain ⟨La, Lb, tg, sum, vL, vW, F, X, hm, h1, h2, h3, h4⟩ := h
  exact ⟨La, Lb, tg, sum, vL, vW, F, X, hm.sub hs, by omega, by omega, by omega, h4⟩
/-- Kept's sum, read -/
theorem Lp.sum (h : Lp W ta tb ra rb kb Ls i w) : ∃ s : Int, w.cell? ⟨kb, 2, none⟩ = some (.int .i64 s) ∧ kb < w.heap.size := by
  obtain ⟨La, Lb, tg, sum, vL, vW, F, X, hm, hr⟩ := h
  exact ⟨sum, blk_cell hm.st.kb.blk rfl, blk_lt hm.st.kb.blk⟩
end
theorem five_new (w : World) (a b c d e : Obj) : (((((w.alloc a).alloc b).alloc c).alloc d).alloc e).heap[w.heap.size]? = some a ∧ (((((w.alloc a).alloc b).alloc c).alloc d).alloc e).heap[w.heap.size + 1]? = some b ∧ (((((w.alloc a).alloc b).alloc c).alloc d).alloc e).heap[w.heap.size + 1 + 1]? = some c ∧
    (((((w.alloc a).alloc b).alloc c).alloc d).alloc e).heap[w.heap.size + 1 + 1 + 1]? = some d ∧ (((((w.alloc a).alloc b).alloc c).alloc d).alloc e).heap[w.heap.size + 1 + 1 + 1 + 1]? = some e ∧ Fresh w (((((w.alloc a).alloc b).alloc c).alloc d).alloc e) := by
  have h1 := new_blk (w := w) a
  have h2 := new_blk (w := w.alloc a) b
  have h3 := new_blk (w := (w.alloc a).alloc b) c
  have h4 := new_blk (w := ((w.alloc a).alloc b).alloc c) d
  have h5 := new_blk (w := (((w.alloc a).alloc b).alloc c).alloc d) e
  simp only [World.size_alloc] at h1 h2 h3 h4 h5
  exact ⟨blk_alloc (blk_alloc (blk_alloc (blk_alloc h1 _) _) _) _, blk_alloc (blk_alloc (blk_alloc h2 _) _) _, blk_alloc (blk_alloc h3 _) _, blk_alloc h4 _, h5, (((((Only.refl _ _).alloc _).alloc _).alloc _).alloc _).alloc _⟩
theorem i64_and1 (n : Int) : bits .and .i64 n 1 = n % 2 := by
  have h1 : (BitVec.ofInt 64 1).toNat = 2 ^ 1 - 1 := by decide
  have key : (BitVec.ofInt 64 n &&& BitVec.ofInt 64 1).toNat = (n % ((2 ^ 64 : Nat) : Int)).toNat % 2 ^ 1 := by
    rw [BitVec.toNat_and, BitVec.toNat_ofInt, h1, Nat.and_two_pow_sub_one_eq_mod]
  show IntKind.i64.wrap ((BitVec.ofInt 64 n &&& BitVec.ofInt 64 1).toNat : Nat) = n % 2
  rw [key, IntKind.wrap_i64]
  omega
/-- a step of a script: which table; the call -/
structure PStp where
  f0 : Int
  f1 : POp
def zStp : PStp := ⟨0, ⟨0, 0, ⟨#[]⟩⟩⟩
def kStp : Kd PStp := Kd.iso (Kd.pair (Kd.int .i64) k23) (fun x : PStp => (x.f0, x.f1))
theorem kStp_open {w : World} {x : PStp} {cs : List Value} (h : kStp.K w x cs) : cs = [.int .i64 x.f0, .int .i64 x.f1.f0, .int .i64 x.f1.f1, .string x.f1.f2] := by
  obtain ⟨_, _, rfl, rfl, h2⟩ := h
  rw [k23_open h2]
  rfl
theorem stp_at {w : World} {A : Option Addr} {n : Nat} {xs : List PStp} (h : kStp.C w A n xs) {i : Nat} (hi : i < n) : ∃ ad, A = some ad ∧ w.cell? (ad.add (i * 4)) = some (.int .i64 (xs.getD i zStp).f0) ∧ w.cell? ⟨(ad.add (i * 4)).block, (ad.add (i * 4)).off + 1, none⟩ = some (.int .i64 (xs.getD i zStp).f1.f0) ∧
    w.cell? ⟨(ad.add (i * 4)).block, (ad.add (i * 4)).off + 2, none⟩ = some (.int .i64 (xs.getD i zStp).f1.f1) ∧ w.cell? ⟨(ad.add (i * 4)).block, (ad.add (i * 4)).off + 3, none⟩ = some (.string (xs.getD i zStp).f1.f2) := by
  obtain ⟨ad, c, e, _, hK, hc0⟩ := Kd.C_get h zStp i (by omega) (by omega)
  have hc : ∀ j u, c[j]? = some u → w.cell? (ad.add (i * 4 + j)) = some u := hc0
  obtain rfl := kStp_open hK
  exact ⟨ad, e, hc 0 _ rfl, by rw [← add_field _ _ 1 (by omega)]; exact hc 1 _ rfl, by rw [← add_field _ _ 2 (by omega)]; exact hc 2 _ rfl, by rw [← add_field _ _ 3 (by omega)]; exact hc 3 _ rfl⟩
set_option maxRecDepth 200000 in
set_option maxHeartbeats 4000000 in
theorem tcalls_walk (W : World) (a0 : Option Addr) (cap0 : Nat) (l : List PStp) (hC : kStp.C W a0 l.length l) (hc : l.length ≤ cap0) (hl : l.length ≤ 1048576) :
    Calls Try.prog 7 #[.slice a0 l.length cap0] W fun e W' => e = .returned (.bool true) ∧ Fresh W W' := by
  have hu := Try.underlying23
  have hu2 := Try.underlying50
  have hu3 := Try.underlying66
  have hu4 := Try.underlying67
  obtain ⟨n, hn⟩ : ∃ n, n = l.length := ⟨_, rfl⟩
  rw [← hn] at hC hc hl ⊢
  have HLG := Lib.hid (fugueref00_Long.calls (n : Int) false W (by unfold fugueref00_Long.f; rw [decide_eq_false (by omega)]))
  have HC := Lib.hid hC
  have HN := Lib.hid (And.intro hn (And.intro hc hl))
  clear hC hn hc
  go_enter Try.func7, Try.ntmps7
  go_wp2_with fail
  refine HLG.out.mono ?_
  rintro e w1 ⟨rfl, hd⟩
  have hf1 : Fresh W w1 := by obtain ⟨k, rfl⟩ := hd; exact (Only.refl _ _).drewN k
  clear hd HLG
  go_wp2_with fail
  refine (lives_walk _).mono ?_
  rintro e w2 ⟨rfl, hf2⟩
  have hf := hf1.trans' hf2
  clear hf1 hf2
  go_wp2_with fail
  refine (tnew _).mono ?_
  rintro e w3 ⟨ta, laba, rfl, hta, hf3, hna⟩
  go_wp2_with fail
  refine (tnew _).mono ?_
  rintro e w4 ⟨tb, labb, rfl, htb, hf4, hnb⟩
  go_upto_region 9 with fail
  refine nameW ?_
  intro V hV
  obtain ⟨b1, b2, b3, b4, b5, hf5⟩ := five_new w4 (.cells #[.pointer (some ⟨ta, 0, none⟩), .pointer (some ⟨tb, 0, none⟩)] 66 (0, 0)) (.cells #[.slice none 0 0, .slice none 0 0] 61 (0, 0)) (.cells #[.slice none 0 0, .slice none 0 0] 61 (0, 0)) (.cells #[.pointer (some ⟨w4.heap.size + 1, 0, none⟩), .pointer (some ⟨w4.heap.size + 1 + 1, 0, none⟩)] 67 (0, 0)) (.cells #[.slice none 0 0, .slice none 0 0, .int .i64 0] 70 (0, 0))
  rw [← hV] at b1 b2 b3 b4 b5 hf5
  have h0 : Lp W ta tb (w4.heap.size + 1) (w4.heap.size + 1 + 1) (w4.heap.size + 1 + 1 + 1 + 1) [(w4.heap.size, .cells #[.pointer (some ⟨ta, 0, none⟩), .pointer (some ⟨tb, 0, none⟩)] 66 (0, 0)), (w4.heap.size + 1 + 1 + 1, .cells #[.pointer (some ⟨w4.heap.size + 1, 0, none⟩), .pointer (some ⟨w4.heap.size + 1 + 1, 0, none⟩)] 67 (0, 0))] 0 V := by
    have olda : ∀ b, laba b ≠ none → b < w3.heap.size := by obtain ⟨bm, f, cs, q⟩ := hta; exact q.old
    have oldb : ∀ b, labb b ≠ none → b < w4.heap.size := by obtain ⟨bm, f, cs, q⟩ := htb; exact q.old
    have hs3 := hf3.size
    have hs4 := hf4.size
    have hs2 := hf.size
    have hta5 := (hta.only hf4 fun _ _ q => q).only hf5 fun _ _ q => q
    have htb5 := htb.only hf5 fun _ _ q => q
    obtain ⟨tg, hm⟩ := MSt.start (V0 := W) hta5 htb5 (fun b hb => Classical.byContradiction fun q => by have := olda b hb; have := hnb b q; omega) (((hf.trans' hf3).trans' hf4).trans' hf5) (fun b hb => by have := hna b hb; omega) (fun b hb => by have := hnb b hb; omega) (by omega) (Ls := [(w4.heap.size, .cells #[.pointer (some ⟨ta, 0, none⟩), .pointer (some ⟨tb, 0, none⟩)] 66 (0, 0)), (w4.heap.size + 1 + 1 + 1, .cells #[.pointer (some ⟨w4.heap.size + 1, 0, none⟩), .pointer (some ⟨w4.heap.size + 1 + 1, 0, none⟩)] 67 (0, 0))]) b2 b3 b5 (by omega) (by omega)
      (fun b hb => ⟨Classical.byContradiction fun q => by have := olda b q; omega, Classical.byContradiction fun q => by have := oldb b q; omega⟩)
      (fun p hp => by
        have hno : ∀ b, w4.heap.size ≤ b → laba b = none ∧ labb b = none := fun b hb => ⟨Classical.byContradiction fun q => by have := olda b q; omega, Classical.byContradiction fun q => by have := oldb b q; omega⟩
        rcases List.mem_cons.1 hp with q | q
        · subst q; exact ⟨b1, by simp <;> omega, by simp <;> omega, by simp <;> omega, hno _ (Nat.le_refl _)⟩
        · obtain rfl := List.mem_singleton.1 q
          exact ⟨b4, by simp <;> omega, by simp, by simp, hno _ (by omega)⟩)
    exact ⟨[], [], tg, 0, _, _, [], [], hm, Nat.zero_le _, Nat.zero_le _, Nat.zero_le _, by decide, by decide⟩
  have H0 := Lib.hid h0
  obtain ⟨Ls, hLs⟩ : ∃ Ls : List (Nat × Obj), Ls = [(w4.heap.size, .cells #[.pointer (some ⟨ta, 0, none⟩), .pointer (some ⟨tb, 0, none⟩)] 66 (0, 0)), (w4.heap.size + 1 + 1 + 1, .cells #[.pointer (some ⟨w4.heap.size + 1, 0, none⟩), .pointer (some ⟨w4.heap.size + 1 + 1, 0, none⟩)] 67 (0, 0))] := ⟨_, rfl⟩
  rw [← hLs] at H0
  have HLS := Lib.hid hLs
  clear h0 hLs hV b1 b2 b3 b4 b5 hf5 hf hf3 hf4 hna hnb hta htb
  go_wp2_with fail
  go_loopw [7] (fun s7 wr => ∃ i : Nat, i ≤ n ∧ s7 = .int .i64 i ∧ Lp W ta tb (w4.heap.size + 1) (w4.heap.size + 1 + 1) (w4.heap.size + 1 + 1 + 1 + 1) Ls i wr) (fun s7 _ => n - (intOf s7).toNat)
  case atStart => exact ⟨0, Nat.zero_le _, rfl, H0.out⟩
  case round =>
    obtain ⟨wo, rfl⟩ : ∃ wo : World, wo = wr := ⟨_, rfl⟩
    obtain ⟨i, hi, rfl, hlp⟩ := hrel
    by_cases hlt : i < n
    · have hiI : (i : Int) < (n : Int) := by omega
      have hi0 : (0 : Int) ≤ (i : Int) := by omega
      have hiD : decide ((i : Int) < (n : Int)) = true := by simp <;> omega
      obtain ⟨ad, hA, d0, d1, d2, d3⟩ := stp_at HC.out hlt
      have hfo := hlp.since
      have e0 := (hfo.cel2 (World.block_lt_of_cell? _ _ d0)).trans d0
      have e1 := (hfo.cel2 (World.block_lt_of_cell? _ _ d1)).trans d1
      have e2 := (hfo.cel2 (World.block_lt_of_cell? _ _ d2)).trans d2
      have e3 := (hfo.cel2 (World.block_lt_of_cell? _ _ d3)).trans d3
      clear d0 d1 d2 d3 hfo
      obtain ⟨st, hst⟩ : ∃ st, st = l.getD i zStp := ⟨_, rfl⟩
      rw [← hst] at e0 e1 e2 e3
      clear hst
      obtain ⟨pl, o⟩ := st
      simp only at e0 e1 e2 e3
      have e4 := ((alloc_only wo (.cells #[.int .i64 o.f0, .int .i64 o.f1, .string o.f2] 23)).cel2 (World.block_lt_of_cell? _ _ e0)).trans e0
      subst hA
      obtain ⟨p, q, hp, hq, hpq⟩ : ∃ p q : Nat, bits .and .i64 pl 1 = (p : Int) ∧ wrap64 (1 - (p : Int)) = (q : Int) ∧ ((p = 0 ∧ q = 1) ∨ (p = 1 ∧ q = 0)) := by
        rw [i64_and1]
        rcases Int.emod_two_eq pl with h | h
        · exact ⟨0, 1, by rw [h]; rfl, by unfold wrap64; omega, .inl ⟨rfl, rfl⟩⟩
        · exact ⟨1, 0, by rw [h]; rfl, by unfold wrap64; omega, .inr ⟨rfl, rfl⟩⟩
      have HLP := Lib.hid hlp
      obtain ⟨s, ks, kl⟩ := hlp.sum
      have HPQ := Lib.hid (And.intro hq hpq)
      clear hlp hq hpq
      by_cases hk1 : o.f0 < 1
      · have hk1D : decide (o.f0 < 1) = true := decide_eq_true hk1
        have HK1 := Lib.hid hk1
        clear hk1
        go_wp2_with fail
        go_roundw
        case rel => exact ⟨i + 1, by omega, by go_num, (HLP.out.alloc _).more (by omega) fun p q => List.mem_cons_of_mem _ q⟩
        case measure => simp [intOf]; omega
      · have hk1D : decide (o.f0 < 1) = false := decide_eq_false hk1
        by_cases hk3 : 3 < o.f0
        · have hk3D : decide (o.f0 > 3) = true := decide_eq_true hk3
          have HK1 := Lib.hid (And.intro hk1 hk3)
          clear hk1 hk3
          go_wp2_with fail
          go_roundw
          case rel => exact ⟨i + 1, by omega, by go_num, (HLP.out.alloc _).more (by omega) fun p q => List.mem_cons_of_mem _ q⟩
          case measure => simp [intOf]; omega
        · have hk3D : decide (o.f0 > 3) = false := decide_eq_false hk3
          have HOK := Lib.hid (show OpOk o by unfold OpOk; omega)
          clear hk1 hk3
          obtain ⟨l1, l2⟩ : wo.heap[w4.heap.size]? = some (.cells #[.pointer (some ⟨ta, 0, none⟩), .pointer (some ⟨tb, 0, none⟩)] 66 (0, 0)) ∧ wo.heap[w4.heap.size + 1 + 1 + 1]? = some (.cells #[.pointer (some ⟨w4.heap.size + 1, 0, none⟩), .pointer (some ⟨w4.heap.size + 1 + 1, 0, none⟩)] 67 (0, 0)) := ⟨HLP.out.at 0 (by rw [HLS.out]; rfl), HLP.out.at 1 (by rw [HLS.out]; rfl)⟩
          obtain ⟨tp, tq, rp, rq, hor, HCL⟩ : ∃ tp tq rp rq, ((p = 0 ∧ tp = ta ∧ tq = tb ∧ rp = w4.heap.size + 1 ∧ rq = w4.heap.size + 1 + 1) ∨ (p = 1 ∧ tp = tb ∧ tq = ta ∧ rp = w4.heap.size + 1 + 1 ∧ rq = w4.heap.size + 1)) ∧ Hid (∀ V : World, V.heap[w4.heap.size]? = some (.cells #[.pointer (some ⟨ta, 0, none⟩), .pointer (some ⟨tb, 0, none⟩)] 66 (0, 0)) → V.heap[w4.heap.size + 1 + 1 + 1]? = some (.cells #[.pointer (some ⟨w4.heap.size + 1, 0, none⟩), .pointer (some ⟨w4.heap.size + 1 + 1, 0, none⟩)] 67 (0, 0)) →
              V.cell? ⟨w4.heap.size, p, none⟩ = some (.pointer (some ⟨tp, 0, none⟩)) ∧ V.cell? ⟨w4.heap.size, q, none⟩ = some (.pointer (some ⟨tq, 0, none⟩)) ∧ V.cell? ⟨w4.heap.size + 1 + 1 + 1, p, none⟩ = some (.pointer (some ⟨rp, 0, none⟩)) ∧ V.cell? ⟨w4.heap.size + 1 + 1 + 1, q, none⟩ = some (.pointer (some ⟨rq, 0, none⟩))) := by
            rcases HPQ.out.2 with ⟨rfl, rfl⟩ | ⟨rfl, rfl⟩
            · exact ⟨ta, tb, _, _, .inl ⟨rfl, rfl, rfl, rfl, rfl⟩, Lib.hid fun V m1 m2 => ⟨blk_cell m1 rfl, blk_cell m1 rfl, blk_cell m2 rfl, blk_cell m2 rfl⟩⟩
            · exact ⟨tb, ta, _, _, .inr ⟨rfl, rfl, rfl, rfl, rfl⟩, Lib.hid fun V m1 m2 => ⟨blk_cell m1 rfl, blk_cell m1 rfl, blk_cell m2 rfl, blk_cell m2 rfl⟩⟩
          have HOR := Lib.hid hor
          obtain ⟨HCA, HCB⟩ : Hid (∀ V : World, V.heap[w4.heap.size]? = some (.cells #[.pointer (some ⟨ta, 0, none⟩), .pointer (some ⟨tb, 0, none⟩)] 66 (0, 0)) → V.cell? ⟨w4.heap.size, p, none⟩ = some (.pointer (some ⟨tp, 0, none⟩))) ∧ Hid (∀ V : World, V.heap[w4.heap.size + 1 + 1 + 1]? = some (.cells #[.pointer (some ⟨w4.heap.size + 1, 0, none⟩), .pointer (some ⟨w4.heap.size + 1 + 1, 0, none⟩)] 67 (0, 0)) → V.cell? ⟨w4.heap.size + 1 + 1 + 1, p, none⟩ = some (.pointer (some ⟨rp, 0, none⟩))) := by
            rcases hor with ⟨rfl, rfl, rfl, rfl, rfl⟩ | ⟨rfl, rfl, rfl, rfl, rfl⟩
            · exact ⟨Lib.hid fun V m => blk_cell m rfl, Lib.hid fun V m => blk_cell m rfl⟩
            · exact ⟨Lib.hid fun V m => blk_cell m rfl, Lib.hid fun V m => blk_cell m rfl⟩
          have HBL := Lib.hid (And.intro l1 l2)
          have hp0 : (0 : Int) ≤ (p : Int) := Int.natCast_nonneg p
          have hp2 : (p : Int) < 2 := by have := HPQ.out.2; omega
          have hq0 : (0 : Int) ≤ (q : Int) := Int.natCast_nonneg q
          have hq2 : (q : Int) < 2 := by have := HPQ.out.2; omega
          have hqe := HPQ.out.1
          have hqe2 : IntKind.i64.wrap (1 - (p : Int)) = (q : Int) := by rw [IntKind.wrap_i64]; have := HPQ.out.2; omega
          clear hor l1 l2
          by_cases hsn : o.f0 = 3 ∧ s < 100000
          · have h3D : (o.f0 == 3) = true := by simp [hsn.1]
            have hsD : decide (s < 100000) = true := decide_eq_true hsn.2
            have HSN := Lib.hid hsn
            clear hsn
            go_wp2_with fail
            refine nameW ?_
            intro V1 hV1
            have hl1 : Lp W ta tb (w4.heap.size + 1) (w4.heap.size + 1 + 1) (w4.heap.size + 1 + 1 + 1 + 1) ((wo.heap.size, .cells #[.int .i64 o.f0, .int .i64 o.f1, .string o.f2] 23 (0, 0)) :: Ls) i V1 := by rw [hV1]; exact HLP.out.alloc _
            obtain ⟨t1, t2, t3, t4, La, Lb, tg, sum, vL, vW, F, X, hsd⟩ := hl1.side HOR.out
            have hss : sum = s := by
              have g1 : V1.cell? ⟨w4.heap.size + 1 + 1 + 1 + 1, 2, none⟩ = some (.int .i64 sum) := blk_cell hsd.st.st.kb.blk rfl
              have g2 : V1.cell? ⟨w4.heap.size + 1 + 1 + 1 + 1, 2, none⟩ = some (.int .i64 s) := by rw [hV1]; exact ((alloc_only wo _).cel2 kl).trans ks
              rw [g1] at g2
              injection g2 with g2
              injection g2
            obtain ⟨ca, cb, cc, cd⟩ := HCL.out V1 (by rw [hV1]; exact blk_alloc HBL.out.1 _) (by rw [hV1]; exact blk_alloc HBL.out.2 _)
            have hm' := hsd.st.fresh (w' := V1.drew) ((Only.refl _ _).drew)
            have hFX : X.length = F.length := by have := congrArg List.length hm'.same; simp at this; omega
            have hA : Calls Try.prog 31 #[.pointer (some ⟨w4.heap.size + 1 + 1 + 1 + 1, 0, none⟩), .pointer (some ⟨tp, 0, none⟩), .pointer (some ⟨tq, 0, none⟩), .pointer (some ⟨rp, 0, none⟩), .pointer (some ⟨rq, 0, none⟩)] V1.drew (fun e w' => e = .returned (.bool true) ∧ Lp W ta tb (w4.heap.size + 1) (w4.heap.size + 1 + 1) (w4.heap.size + 1 + 1 + 1 + 1) Ls (i + 1) w') := by
              have h1 := hsd.la
              have h2 := hsd.lb
              have h3 := hsd.fl
              have h4 := hsd.s0
              have h5 := hsd.s1
              refine (asks_walk _ (hm'.fit.ok (show La.length ≤ 1048576 by omega) (show Lb.length ≤ 1048576 by omega)) True (hm'.sub (Ls' := []) (fun p q => by cases q)).st (fun _ => ⟨hm'.r8, hm'.ka, hm'.r9⟩) h4 (by omega) (by omega) (by omega)).mono fun e w' hpost => ?_
              obtain ⟨he, tg', sum', vL', vW', F', X', hm5, hlen, g1, g2⟩ := hm'.asked hpost
              exact ⟨he, (hsd.back (j := i + 1) hm5 (show La.length ≤ i + 1 by omega) (show Lb.length ≤ i + 1 by omega) (by omega) (by omega) (by have := HSN.out.2; omega)).more (Nat.le_refl _) fun p q => List.mem_cons_of_mem _ q⟩
            have HA := Lib.hid hA
            clear hA hm' hFX hsd hl1 hV1 hss ks kl e0 e1 e2 e3 e4
            refine wp_region_still_tail 15 (by kernel_rfl) (by kernel_rfl) ?_
            simp only [List.take_succ_cons, List.take_zero, List.drop_succ_cons, List.drop_zero]
            repeat still_step
            refine wpStill_nil ?_
            go_wp2_with fail
            refine HA.out.mono ?_
            rintro e w5 ⟨rfl, hl5⟩
            have HL5 := Lib.hid hl5
            clear hl5
            go_wp2_with fail
            go_roundw
            case rel => exact ⟨i + 1, by omega, by go_num, HL5.out⟩
            case measure => simp [intOf]; omega
          · have key : (o.f0 == 3) = false ∨ ((o.f0 == 3) = true ∧ decide (s < 100000) = false) := by
              by_cases h3 : o.f0 = 3
              · exact .inr ⟨by simp [h3], decide_eq_false fun h => hsn ⟨h3, h⟩⟩
              · exact .inl (beq_eq_false_iff_ne.mpr h3)
            clear hsn
            rcases key with h3D | ⟨h3D, hsD⟩
            all_goals
              go_wp2_with fail
              refine nameW ?_
              intro V1 hV1
              have hl1 : Lp W ta tb (w4.heap.size + 1) (w4.heap.size + 1 + 1) (w4.heap.size + 1 + 1 + 1 + 1) ((wo.heap.size, (.cells #[.int .i64 o.f0, .int .i64 o.f1, .string o.f2] 23 (0, 0))) :: Ls) i V1 := by rw [hV1]; exact HLP.out.alloc _
              obtain ⟨t1, t2, t3, t4, La, Lb, tg, sum, vL, vW, F, X, hsd⟩ := hl1.side HOR.out
              have hm' : MSt W ⟨t1, t2, t3, t4, tp, tq, rp, rq, La, Lb, w4.heap.size + 1 + 1 + 1 + 1, V1.drew, tg⟩ sum vL vW F X ((wo.heap.size, (.cells #[.int .i64 o.f0, .int .i64 o.f1, .string o.f2] 23 (0, 0))) :: Ls) := hsd.st.fresh (w' := V1.drew) ((Only.refl _ _).drew)
              have hla := hsd.la
              have HLA := Lib.hid (show La.length ≤ 1048576 by omega)
              have HD := Lib.hid (show Calls Try.prog 32 #[.pointer (some ⟨tp, 0, none⟩), .agg #[.int .i64 o.f0, .int .i64 o.f1, .string o.f2]] V1.drew (fun e w' => ∃ r A2 c2 A3 c3 tg', r = repOf La o ∧ e = .returned (.agg #[.bool r.f0, .string r.f1, .slice A2 r.f2.length c2, .slice A3 r.f3.length c3]) ∧ Mid W ⟨t1, t2, t3, t4, tp, tq, rp, rq, La, Lb, w4.heap.size + 1 + 1 + 1 + 1, V1.drew, tg⟩ w' tg' sum vL vW F X (((wo.heap.size, (.cells #[.int .i64 o.f0, .int .i64 o.f1, .string o.f2] 23 (0, 0))) :: Ls)) o ⟨r, .slice A2 r.f2.length c2, .slice A3 r.f3.length c3⟩) from (hm'.does HLA.out o).mono fun e w' ⟨A2, c2, A3, c3, tg', he, hq⟩ => ⟨_, A2, c2, A3, c3, tg', rfl, he, hq⟩)
              have HD2 := Lib.hid (show Calls Try.prog 32 #[.pointer (some ⟨tp, 0, none⟩), .agg #[.int .i64 o.f0, .int .i64 o.f1, .string o.f2]] (V1.drew.alloc (.cells #[.bool false, .string ⟨#[]⟩, .slice none 0 0, .slice none 0 0] 50 (0, 0))) (fun e w' => ∃ r A2 c2 A3 c3 tg', r = repOf La o ∧ e = .returned (.agg #[.bool r.f0, .string r.f1, .slice A2 r.f2.length c2, .slice A3 r.f3.length c3]) ∧ Mid W ⟨t1, t2, t3, t4, tp, tq, rp, rq, La, Lb, w4.heap.size + 1 + 1 + 1 + 1, V1.drew, tg⟩ w' tg' sum vL vW F X ((V1.heap.size, (.cells #[.bool false, .string ⟨#[]⟩, .slice none 0 0, .slice none 0 0] 50 (0, 0))) :: (wo.heap.size, (.cells #[.int .i64 o.f0, .int .i64 o.f1, .string o.f2] 23 (0, 0))) :: Ls) o ⟨r, .slice A2 r.f2.length c2, .slice A3 r.f3.length c3⟩) from ((hm'.alloc (.cells #[.bool false, .string ⟨#[]⟩, .slice none 0 0, .slice none 0 0] 50 (0, 0))).does HLA.out o).mono fun e w' ⟨A2, c2, A3, c3, tg', he, hq⟩ => ⟨_, A2, c2, A3, c3, tg', rfl, he, hq.re⟩)
              have HM := Lib.hid (And.intro hm' hsd)
              have HSV1 := Lib.hid (And.intro (hl1.at 0 rfl) (show V1.heap[w4.heap.size]? = some (.cells #[.pointer (some ⟨ta, 0, none⟩), .pointer (some ⟨tb, 0, none⟩)] 66 (0, 0)) by rw [hV1]; exact blk_alloc HBL.out.1 _))
              have HNV1 := Lib.hid (fun (pp : Nat × Obj) (hp : pp ∈ ((wo.heap.size, (.cells #[.int .i64 o.f0, .int .i64 o.f1, .string o.f2] 23 (0, 0))) :: Ls)) => (show pp.1 ≠ V1.heap.size from Nat.ne_of_lt (blk_lt (hm'.st.loc pp hp).1)))
              have HNQV1 := Lib.hid (And.intro (Nat.ne_of_lt (blk_lt HSV1.out.1)) (Nat.ne_of_lt (blk_lt HSV1.out.2)))
              have HVV1 := Lib.hid (show W.heap.size ≤ V1.heap.size from hm'.f.size)
              clear hm' hsd hl1 hV1 ks kl e0 e1 e2 e3 e4 hla
              go_cut [10] from 89 to 94 (fun s10 wx => ∃ qb r A2 c2 A3 c3 tg', s10 = .pointer (some ⟨qb, 0, none⟩) ∧ r = repOf La o ∧ Mid W ⟨t1, t2, t3, t4, tp, tq, rp, rq, La, Lb, w4.heap.size + 1 + 1 + 1 + 1, V1.drew, tg⟩ wx tg' sum vL vW F X ((qb, (.cells #[.bool r.f0, .string r.f1, .slice A2 r.f2.length c2, .slice A3 r.f3.length c3] 50 (0, 0))) :: (wo.heap.size, (.cells #[.int .i64 o.f0, .int .i64 o.f1, .string o.f2] 23 (0, 0))) :: Ls) o ⟨r, .slice A2 r.f2.length c2, .slice A3 r.f3.length c3⟩)
              case first =>
                refine wp_region_held (S := fun w' => w'.heap[wo.heap.size]? = some (.cells #[.int .i64 o.f0, .int .i64 o.f1, .string o.f2] 23 (0, 0)) ∧ w'.heap[w4.heap.size]? = some (.cells #[.pointer (some ⟨ta, 0, none⟩), .pointer (some ⟨tb, 0, none⟩)] 66 (0, 0))) (by kernel_rfl) ?_
                refine wpAnyH_take (i := 0) (v := .int .i64 (p : Int)) rfl (by kernel_rfl) (by kernel_rfl) (by kernel_rfl) (fun _ _ _ h => h) (Or.inl ⟨by rfl, fun w' hw' => by obtain ⟨g1, g2⟩ := hw'; go_simp⟩) HSV1.out ?_
                refine wpAnyH_take (i := 1) (v := .pointer (some ⟨w4.heap.size, p, none⟩)) rfl (by kernel_rfl) (by kernel_rfl) (by kernel_rfl) (fun _ _ _ h => h) (Or.inl ⟨by rfl, fun w' hw' => by obtain ⟨g1, g2⟩ := hw'; go_simp⟩) HSV1.out ?_
                refine wpAnyH_take (i := 2) (v := .pointer (some ⟨tp, 0, none⟩)) rfl (by kernel_rfl) (by kernel_rfl) (by kernel_rfl) (fun _ _ _ h => h) (Or.inl ⟨by rfl, fun w' hw' => by obtain ⟨g1, g2⟩ := hw'; have ca := HCA.out w' g2; go_simp⟩) HSV1.out ?_
                refine wpAnyH_take (i := 3) (v := .agg #[.int .i64 o.f0, .int .i64 o.f1, .string o.f2]) rfl (by kernel_rfl) (by kernel_rfl) (by kernel_rfl) (fun _ _ _ h => h) (Or.inl ⟨by rfl, fun w' hw' => by obtain ⟨g1, g2⟩ := hw'; obtain ⟨y0, y1, y2, y3⟩ := op_blk g1; go_simp⟩) HSV1.out ?_
                refine wpAnyH_two (i := 4) (k := 5) (by kernel_rfl) rfl rfl (by rfl) (by rfl) ?_ ?_
                · intro Kq hK
                  go_simp
                  refine HD.out.mono ?_
                  rintro e wx ⟨r, A2, c2, A3, c3, tg5, hr, rfl, hmid⟩
                  have HSX := Lib.hid (And.intro (hmid.at 0 rfl).1 (hmid.at 1 (by rw [HLS.out]; rfl)).1)
                  have HR := Lib.hid (And.intro hr hmid)
                  clear hr hmid
                  refine hK _ _ HSX.out ?_
                  clear hK Kq
                  refine wpAnyH_step (i := 5) (by kernel_rfl) rfl (by rfl) ?_
                  intro Kq hK
                  go_simp
                  refine hK _ _ ⟨blk_alloc HSX.out.1 _, blk_alloc HSX.out.2 _⟩ ?_
                  clear hK Kq
                  refine wpAnyH_step (i := 6) (by kernel_rfl) rfl (by rfl) ?_
                  intro Kq hK
                  refine wp_store_row 50 (.tmp 10) (.tmp 93) rfl wx.heap.size #[.bool r.f0, .string r.f1, .slice A2 r.f2.length c2, .slice A3 r.f3.length c3] rfl rfl 50 #[.bool false, .string ⟨#[]⟩, .slice none 0 0, .slice none 0 0] (new_blk _) (by kernel_rfl) rfl (by simp [Value.oneCell']) ?_
                  refine hK _ _ ⟨(setRow_only (wx.alloc (.cells #[.bool false, .string ⟨#[]⟩, .slice none 0 0, .slice none 0 0] 50 (0, 0))) wx.heap.size #[.bool r.f0, .string r.f1, .slice A2 r.f2.length c2, .slice A3 r.f3.length c3]).blk (blk_alloc HSX.out.1 _) (Nat.ne_of_lt (blk_lt HSX.out.1)), (setRow_only (wx.alloc (.cells #[.bool false, .string ⟨#[]⟩, .slice none 0 0, .slice none 0 0] 50 (0, 0))) wx.heap.size #[.bool r.f0, .string r.f1, .slice A2 r.f2.length c2, .slice A3 r.f3.length c3]).blk (blk_alloc HSX.out.2 _) (Nat.ne_of_lt (blk_lt HSX.out.2))⟩ ?_
                  clear hK Kq
                  refine wpAnyH_done (by kernel_rfl) ?_ _
                  go_wp2_with fail
                  go_meet
                  obtain ⟨hr, hmid⟩ := HR.out
                  exact ⟨wx.heap.size, r, A2, c2, A3, c3, tg5, rfl, hr, (hmid.alloc (.cells #[.bool false, .string ⟨#[]⟩, .slice none 0 0, .slice none 0 0] 50 (0, 0))).store HM.out.1.fit.tags hmid.f.size (fun pp hp => Nat.ne_of_lt (blk_lt (hmid.loc pp hp).1)) _ _ _ _⟩
                · intro Kq hK
                  go_simp
                  refine hK _ _ ⟨blk_alloc HSV1.out.1 _, blk_alloc HSV1.out.2 _⟩ ?_
                  clear hK Kq
                  refine wpAnyH_step (i := 4) (by kernel_rfl) rfl (by rfl) ?_
                  intro Kq hK
                  go_simp
                  refine HD2.out.mono ?_
                  rintro e wx ⟨r, A2, c2, A3, c3, tg5, hr, rfl, hmid⟩
                  have HSX := Lib.hid (And.intro (hmid.at 1 rfl).1 (hmid.at 2 (by rw [HLS.out]; rfl)).1)
                  have HQX := Lib.hid (hmid.at 0 rfl).1
                  have HR := Lib.hid (And.intro hr hmid)
                  clear hr hmid
                  refine hK _ _ HSX.out ?_
                  clear hK Kq
                  refine wpAnyH_step (i := 6) (by kernel_rfl) rfl (by rfl) ?_
                  intro Kq hK
                  refine wp_store_row 50 (.tmp 10) (.tmp 93) rfl V1.heap.size #[.bool r.f0, .string r.f1, .slice A2 r.f2.length c2, .slice A3 r.f3.length c3] rfl rfl 50 #[.bool false, .string ⟨#[]⟩, .slice none 0 0, .slice none 0 0] HQX.out (by kernel_rfl) rfl (by simp [Value.oneCell']) ?_
                  refine hK _ _ ⟨(setRow_only wx V1.heap.size #[.bool r.f0, .string r.f1, .slice A2 r.f2.length c2, .slice A3 r.f3.length c3]).blk HSX.out.1 (HNQV1.out.1), (setRow_only wx V1.heap.size #[.bool r.f0, .string r.f1, .slice A2 r.f2.length c2, .slice A3 r.f3.length c3]).blk HSX.out.2 (HNQV1.out.2)⟩ ?_
                  clear hK Kq
                  refine wpAnyH_done (by kernel_rfl) ?_ _
                  go_wp2_with fail
                  go_meet
                  obtain ⟨hr, hmid⟩ := HR.out
                  exact ⟨V1.heap.size, r, A2, c2, A3, c3, tg5, rfl, hr, hmid.store HM.out.1.fit.tags HVV1.out HNV1.out _ _ _ _⟩
              case rest =>
                obtain ⟨qb, r, A2, c2, A3, c3, tg5, rfl, hr, hmid⟩ := hcut
                obtain ⟨V2, rfl⟩ : ∃ V2 : World, V2 = wc := ⟨_, rfl⟩
                have hmd := hmid.fresh (w' := V2.drew) ((Only.refl _ _).drew)
                have HR := Lib.hid hr
                have HD3 := Lib.hid (show Calls Try.prog 28 #[.pointer (some ⟨rp, 0, none⟩), .agg #[.int .i64 o.f0, .int .i64 o.f1, .string o.f2]] V2.drew (fun e w' => ∃ B2 b2 B3 b3 tg', e = .returned (.agg #[.bool r.f0, .string r.f1, .slice B2 r.f2.length b2, .slice B3 r.f3.length b3]) ∧ Hid (∀ w'', Only w' w'' (fun b => tg' b = 0) → RepIn w'' r B2 b2 B3 b3 ∧ RepIn w'' r A2 c2 A3 c3) ∧ MSt W ⟨t1, t2, t3, t4, tp, tq, rp, rq, tabOf La o, Lb, w4.heap.size + 1 + 1 + 1 + 1, w', tg'⟩ sum vL vW F X (((qb, (.cells #[.bool r.f0, .string r.f1, .slice A2 r.f2.length c2, .slice A3 r.f3.length c3] 50 (0, 0))) :: (wo.heap.size, (.cells #[.int .i64 o.f0, .int .i64 o.f1, .string o.f2] 23 (0, 0))) :: Ls))) from by
                  subst hr
                  exact (Mid.doB HM.out.1 hmd HLA.out HOK.out).mono fun e w' ⟨B2, b2, B3, b3, tg', he, i1, hq⟩ => ⟨B2, b2, B3, b3, tg', he, Lib.hid i1, hq⟩)
                have HD4 := Lib.hid (show Calls Try.prog 28 #[.pointer (some ⟨rp, 0, none⟩), .agg #[.int .i64 o.f0, .int .i64 o.f1, .string o.f2]] (V2.drew.alloc (.cells #[.bool false, .string ⟨#[]⟩, .slice none 0 0, .slice none 0 0] 50 (0, 0))) (fun e w' => ∃ B2 b2 B3 b3 tg', e = .returned (.agg #[.bool r.f0, .string r.f1, .slice B2 r.f2.length b2, .slice B3 r.f3.length b3]) ∧ Hid (∀ w'', Only w' w'' (fun b => tg' b = 0) → RepIn w'' r B2 b2 B3 b3 ∧ RepIn w'' r A2 c2 A3 c3) ∧ MSt W ⟨t1, t2, t3, t4, tp, tq, rp, rq, tabOf La o, Lb, w4.heap.size + 1 + 1 + 1 + 1, w', tg'⟩ sum vL vW F X ((V2.heap.size, (.cells #[.bool false, .string ⟨#[]⟩, .slice none 0 0, .slice none 0 0] 50 (0, 0))) :: ((qb, (.cells #[.bool r.f0, .string r.f1, .slice A2 r.f2.length c2, .slice A3 r.f3.length c3] 50 (0, 0))) :: (wo.heap.size, (.cells #[.int .i64 o.f0, .int .i64 o.f1, .string o.f2] 23 (0, 0))) :: Ls))) from by
                  have hr := HR.out
                  subst hr
                  exact (Mid.doB HM.out.1 (hmd.alloc (.cells #[.bool false, .string ⟨#[]⟩, .slice none 0 0, .slice none 0 0] 50 (0, 0))) HLA.out HOK.out).mono fun e w' ⟨B2, b2, B3, b3, tg', he, i1, hq⟩ => ⟨B2, b2, B3, b3, tg', he, Lib.hid i1, hq⟩)
                have HSV2 := Lib.hid (And.intro (hmid.at 1 rfl).1 (show V2.heap[w4.heap.size + 1 + 1 + 1]? = some (.cells #[.pointer (some ⟨w4.heap.size + 1, 0, none⟩), .pointer (some ⟨w4.heap.size + 1 + 1, 0, none⟩)] 67 (0, 0)) from (hmid.at 3 (by rw [HLS.out]; rfl)).1))
                have HNV2 := Lib.hid (fun (pp : Nat × Obj) (hp : pp ∈ ((qb, (.cells #[.bool r.f0, .string r.f1, .slice A2 r.f2.length c2, .slice A3 r.f3.length c3] 50 (0, 0))) :: (wo.heap.size, (.cells #[.int .i64 o.f0, .int .i64 o.f1, .string o.f2] 23 (0, 0))) :: Ls)) => (show pp.1 ≠ V2.heap.size from Nat.ne_of_lt (blk_lt (hmid.loc pp hp).1)))
                have HNQV2 := Lib.hid (And.intro (Nat.ne_of_lt (blk_lt HSV2.out.1)) (Nat.ne_of_lt (blk_lt HSV2.out.2)))
                have HVV2 := Lib.hid (show W.heap.size ≤ V2.heap.size from hmid.f.size)
                clear hr hmid hmd HD HD2 HSV1 HNV1 HNQV1
                go_upto_region 18 with fail
                go_cut [11] from 94 to 99 (fun s11 wx => ∃ ub B2 b2 B3 b3 tg', s11 = .pointer (some ⟨ub, 0, none⟩) ∧ RepIn wx r B2 b2 B3 b3 ∧ RepIn wx r A2 c2 A3 c3 ∧ MSt W ⟨t1, t2, t3, t4, tp, tq, rp, rq, tabOf La o, Lb, w4.heap.size + 1 + 1 + 1 + 1, wx, tg'⟩ sum vL vW F X ((ub, (.cells #[.bool r.f0, .string r.f1, .slice B2 r.f2.length b2, .slice B3 r.f3.length b3] 50 (0, 0))) :: ((qb, (.cells #[.bool r.f0, .string r.f1, .slice A2 r.f2.length c2, .slice A3 r.f3.length c3] 50 (0, 0))) :: (wo.heap.size, (.cells #[.int .i64 o.f0, .int .i64 o.f1, .string o.f2] 23 (0, 0))) :: Ls)))
                case first =>
                  refine wp_region_held (S := fun w' => w'.heap[wo.heap.size]? = some (.cells #[.int .i64 o.f0, .int .i64 o.f1, .string o.f2] 23 (0, 0)) ∧ w'.heap[w4.heap.size + 1 + 1 + 1]? = some (.cells #[.pointer (some ⟨w4.heap.size + 1, 0, none⟩), .pointer (some ⟨w4.heap.size + 1 + 1, 0, none⟩)] 67 (0, 0))) (by kernel_rfl) ?_
                  refine wpAnyH_take (i := 0) (v := .int .i64 (p : Int)) rfl (by kernel_rfl) (by kernel_rfl) (by kernel_rfl) (fun _ _ _ h => h) (Or.inl ⟨by rfl, fun w' hw' => by obtain ⟨g1, g2⟩ := hw'; go_simp⟩) HSV2.out ?_
                  refine wpAnyH_take (i := 1) (v := .pointer (some ⟨w4.heap.size + 1 + 1 + 1, p, none⟩)) rfl (by kernel_rfl) (by kernel_rfl) (by kernel_rfl) (fun _ _ _ h => h) (Or.inl ⟨by rfl, fun w' hw' => by obtain ⟨g1, g2⟩ := hw'; go_simp⟩) HSV2.out ?_
                  refine wpAnyH_take (i := 2) (v := .pointer (some ⟨rp, 0, none⟩)) rfl (by kernel_rfl) (by kernel_rfl) (by kernel_rfl) (fun _ _ _ h => h) (Or.inl ⟨by rfl, fun w' hw' => by obtain ⟨g1, g2⟩ := hw'; have ca := HCB.out w' g2; go_simp⟩) HSV2.out ?_
                  refine wpAnyH_take (i := 3) (v := .agg #[.int .i64 o.f0, .int .i64 o.f1, .string o.f2]) rfl (by kernel_rfl) (by kernel_rfl) (by kernel_rfl) (fun _ _ _ h => h) (Or.inl ⟨by rfl, fun w' hw' => by obtain ⟨g1, g2⟩ := hw'; obtain ⟨y0, y1, y2, y3⟩ := op_blk g1; go_simp⟩) HSV2.out ?_
                  refine wpAnyH_two (i := 4) (k := 5) (by kernel_rfl) rfl rfl (by rfl) (by rfl) ?_ ?_
                  · intro Kq hK
                    go_simp
                    refine HD3.out.mono ?_
                    rintro e wx ⟨B2, b2, B3, b3, tg6, rfl, i1, hm6⟩
                    have HSX := Lib.hid (And.intro (hm6.at 1 rfl).1 (hm6.at 3 (by rw [HLS.out]; rfl)).1)
                    have H6 := Lib.hid hm6
                    clear hm6
                    refine hK _ _ HSX.out ?_
                    clear hK Kq
                    refine wpAnyH_step (i := 5) (by kernel_rfl) rfl (by rfl) ?_
                    intro Kq hK
                    go_simp
                    refine hK _ _ ⟨blk_alloc HSX.out.1 _, blk_alloc HSX.out.2 _⟩ ?_
                    clear hK Kq
                    refine wpAnyH_step (i := 6) (by kernel_rfl) rfl (by rfl) ?_
                    intro Kq hK
                    refine wp_store_row 50 (.tmp 11) (.tmp 98) rfl wx.heap.size #[.bool r.f0, .string r.f1, .slice B2 r.f2.length b2, .slice B3 r.f3.length b3] rfl rfl 50 #[.bool false, .string ⟨#[]⟩, .slice none 0 0, .slice none 0 0] (new_blk _) (by kernel_rfl) rfl (by simp [Value.oneCell']) ?_
                    refine hK _ _ ⟨(setRow_only (wx.alloc (.cells #[.bool false, .string ⟨#[]⟩, .slice none 0 0, .slice none 0 0] 50 (0, 0))) wx.heap.size #[.bool r.f0, .string r.f1, .slice B2 r.f2.length b2, .slice B3 r.f3.length b3]).blk (blk_alloc HSX.out.1 _) (Nat.ne_of_lt (blk_lt HSX.out.1)), (setRow_only (wx.alloc (.cells #[.bool false, .string ⟨#[]⟩, .slice none 0 0, .slice none 0 0] 50 (0, 0))) wx.heap.size #[.bool r.f0, .string r.f1, .slice B2 r.f2.length b2, .slice B3 r.f3.length b3]).blk (blk_alloc HSX.out.2 _) (Nat.ne_of_lt (blk_lt HSX.out.2))⟩ ?_
                    clear hK Kq
                    refine wpAnyH_done (by kernel_rfl) ?_ _
                    go_wp2_with fail
                    go_meet
                    have hm6 := H6.out
                    have hst := ((Only.refl wx fun b => b = wx.heap.size).alloc (.cells #[.bool false, .string ⟨#[]⟩, .slice none 0 0, .slice none 0 0] 50 (0, 0))).trans' (setRow_only (wx.alloc (.cells #[.bool false, .string ⟨#[]⟩, .slice none 0 0, .slice none 0 0] 50 (0, 0))) wx.heap.size #[.bool r.f0, .string r.f1, .slice B2 r.f2.length b2, .slice B3 r.f3.length b3])
                    obtain ⟨k1, k2⟩ := i1.out _ (hst.mono fun b _ e => by rw [e]; exact hm6.st.cl _ (Nat.le_refl _))
                    exact ⟨wx.heap.size, B2, b2, B3, b3, tg6, rfl, k1, k2, (hm6.alloc (.cells #[.bool false, .string ⟨#[]⟩, .slice none 0 0, .slice none 0 0] 50 (0, 0))).store hm6.f.size (fun pp hp => Nat.ne_of_lt (blk_lt (hm6.st.loc pp hp).1)) _ _ _ _⟩
                  · intro Kq hK
                    go_simp
                    refine hK _ _ ⟨blk_alloc HSV2.out.1 _, blk_alloc HSV2.out.2 _⟩ ?_
                    clear hK Kq
                    refine wpAnyH_step (i := 4) (by kernel_rfl) rfl (by rfl) ?_
                    intro Kq hK
                    go_simp
                    refine HD4.out.mono ?_
                    rintro e wx ⟨B2, b2, B3, b3, tg6, rfl, i1, hm6⟩
                    have HSX := Lib.hid (And.intro (hm6.at 2 rfl).1 (hm6.at 4 (by rw [HLS.out]; rfl)).1)
                    have HQX := Lib.hid (hm6.at 0 rfl).1
                    have H6 := Lib.hid hm6
                    clear hm6
                    refine hK _ _ HSX.out ?_
                    clear hK Kq
                    refine wpAnyH_step (i := 6) (by kernel_rfl) rfl (by rfl) ?_
                    intro Kq hK
                    refine wp_store_row 50 (.tmp 11) (.tmp 98) rfl V2.heap.size #[.bool r.f0, .string r.f1, .slice B2 r.f2.length b2, .slice B3 r.f3.length b3] rfl rfl 50 #[.bool false, .string ⟨#[]⟩, .slice none 0 0, .slice none 0 0] HQX.out (by kernel_rfl) rfl (by simp [Value.oneCell']) ?_
                    refine hK _ _ ⟨(setRow_only wx V2.heap.size #[.bool r.f0, .string r.f1, .slice B2 r.f2.length b2, .slice B3 r.f3.length b3]).blk HSX.out.1 (HNQV2.out.1), (setRow_only wx V2.heap.size #[.bool r.f0, .string r.f1, .slice B2 r.f2.length b2, .slice B3 r.f3.length b3]).blk HSX.out.2 (HNQV2.out.2)⟩ ?_
                    clear hK Kq
                    refine wpAnyH_done (by kernel_rfl) ?_ _
                    go_wp2_with fail
                    go_meet
                    have hm6 := H6.out
                    obtain ⟨k1, k2⟩ := i1.out _ ((setRow_only wx V2.heap.size #[.bool r.f0, .string r.f1, .slice B2 r.f2.length b2, .slice B3 r.f3.length b3]).mono fun b _ e => by rw [e]; exact (hm6.at 0 rfl).2)
                    exact ⟨V2.heap.size, B2, b2, B3, b3, tg6, rfl, k1, k2, hm6.store HVV2.out HNV2.out _ _ _ _⟩
                case rest =>
                  obtain ⟨ub, B2, b2, B3, b3, tg6, rfl, i1, i2, hm6⟩ := hcut
                  obtain ⟨V3, rfl⟩ : ∃ V3 : World, V3 = wc := ⟨_, rfl⟩
                  obtain ⟨p0, p1, p2, p3, p4⟩ := rep_blk (hm6.at 1 rfl).1
                  obtain ⟨q0, q1, q2, q3, q4⟩ := rep_blk (hm6.at 0 rfl).1
                  have HE := Lib.hid (eqreply_calls _ r i2 i1)
                  unfold repV at HE
                  have HM6 := Lib.hid hm6
                  clear hm6 i1 i2 HD3 HD4 HSV2 HNV2 HNQV2
                  go_wp2_with fail
                  refine HE.out.mono ?_
                  rintro e w7 ⟨rfl, hb7⟩
                  have HB7 := Lib.hid hb7
                  clear hb7 p0 p1 p2 p3 p4 q0 q1 q2 q3 q4
                  go_wp2_with fail
                  go_roundw
                  case rel =>
                    refine ⟨i + 1, by omega, by go_num, ?_⟩
                    have hf7 := Only.of_below (S := fun _ => False) HB7.out fun b h1 h2 => absurd h2 (Nat.not_lt.2 h1)
                    have hm7 := HM6.out.fresh hf7
                    have hsd := HM.out.2
                    have h1 := hsd.la
                    have h2 := hsd.lb
                    have h3 := hsd.fl
                    have h4 := tab_len (L := La) (o := o)
                    exact (hsd.back (j := i + 1) hm7 (show (tabOf La o).length ≤ i + 1 by omega) (show Lb.length ≤ i + 1 by omega) (by omega) hsd.s0 hsd.s1).more (Nat.le_refl _) fun p q => List.mem_cons_of_mem _ (List.mem_cons_of_mem _ (List.mem_cons_of_mem _ q))
                  case measure => simp [intOf]; omega
    · -- THE END
      obtain rfl : i = n := by omega
      have hiD : decide ((i : Int) < (i : Int)) = false := by simp
      obtain ⟨l1, l2⟩ : wo.heap[w4.heap.size]? = some (.cells #[.pointer (some ⟨ta, 0, none⟩), .pointer (some ⟨tb, 0, none⟩)] 66 (0, 0)) ∧ wo.heap[w4.heap.size + 1 + 1 + 1]? = some (.cells #[.pointer (some ⟨w4.heap.size + 1, 0, none⟩), .pointer (some ⟨w4.heap.size + 1 + 1, 0, none⟩)] 67 (0, 0)) := ⟨hlp.at 0 (by rw [HLS.out]; rfl), hlp.at 1 (by rw [HLS.out]; rfl)⟩
      have c0 : wo.cell? ⟨w4.heap.size, 0, none⟩ = some (.pointer (some ⟨ta, 0, none⟩)) := blk_cell l1 rfl
      have c1 : wo.cell? ⟨w4.heap.size, 1, none⟩ = some (.pointer (some ⟨tb, 0, none⟩)) := blk_cell l1 rfl
      have c2 : wo.cell? ⟨w4.heap.size + 1 + 1 + 1, 0, none⟩ = some (.pointer (some ⟨w4.heap.size + 1, 0, none⟩)) := blk_cell l2 rfl
      have c3 : wo.cell? ⟨w4.heap.size + 1 + 1 + 1, 1, none⟩ = some (.pointer (some ⟨w4.heap.size + 1 + 1, 0, none⟩)) := blk_cell l2 rfl
      obtain ⟨La, Lb, tg, sum, vL, vW, F, X, hm, m1, m2, m3, m4, m5⟩ := hlp
      have hok := hm.fit.ok (show La.length ≤ 1048576 by omega) (show Lb.length ≤ 1048576 by omega)
      have hFX : X.length = F.length := by have := congrArg List.length hm.same; simp at this; omega
      have HA := Lib.hid (show Calls Try.prog 31 #[.pointer (some ⟨w4.heap.size + 1 + 1 + 1 + 1, 0, none⟩), .pointer (some ⟨ta, 0, none⟩), .pointer (some ⟨tb, 0, none⟩), .pointer (some ⟨w4.heap.size + 1, 0, none⟩), .pointer (some ⟨w4.heap.size + 1 + 1, 0, none⟩)] wo (fun e w' => e = .returned (.bool true) ∧ ∃ tg' sum' vL' vW' F' X', MSt W ⟨1, 2, 3, 4, ta, tb, w4.heap.size + 1, w4.heap.size + 1 + 1, La, Lb, w4.heap.size + 1 + 1 + 1 + 1, w', tg'⟩ sum' vL' vW' F' X' Ls ∧ 0 < F'.length ∧ F'.length ≤ 8388608 ∧ 0 ≤ sum' ∧ sum' ≤ 1000000000000) from
        (asks_walk _ hok True (hm.sub (Ls' := []) (fun p q => by cases q)).st (fun _ => ⟨hm.r8, hm.ka, hm.r9⟩) m4 (by omega) (by omega) (by omega)).mono fun e w' hpost => by
          obtain ⟨he, tg', sum', vL', vW', F', X', hm5, hlen, g1, g2⟩ := hm.asked hpost
          exact ⟨he, tg', sum', vL', vW', F', X', hm5, by omega, by omega, by omega, by omega⟩)
      have HOK := Lib.hid (show La.length ≤ 1048576 ∧ Lb.length ≤ 1048576 by omega)
      clear l1 l2 hm m1 m2 m3 m4 m5 hok hFX
      go_wp2_with fail
      refine HA.out.mono ?_
      rintro e w5 ⟨rfl, tg5, sum5, vL5, vW5, F5, X5, hm5, hF0, hF1, hs0, hs1⟩
      have HAL := Lib.hid (alone_walk hm5.st.kb hm5.r8 hm5.ka hm5.r9 hm5.same (show F5.length ≤ 16777216 by omega) hF0 fun x q => by have := hm5.fl x q; omega)
      have HM5 := Lib.hid (And.intro hm5 (And.intro hF1 (And.intro hs0 hs1)))
      clear hm5 hF0 hF1 hs0 hs1 c0 c1 c2 c3 HA
      go_wp2_with fail
      refine HAL.out.mono ?_
      rintro e w6 ⟨rfl, ho⟩
      have h6 := HM5.out.1.spoilt ho
      have l1 : w6.heap[w4.heap.size]? = some (.cells #[.pointer (some ⟨ta, 0, none⟩), .pointer (some ⟨tb, 0, none⟩)] 66 (0, 0)) := h6.1.at 0 (by rw [HLS.out]; rfl)
      have l2 : w6.heap[w4.heap.size + 1 + 1 + 1]? = some (.cells #[.pointer (some ⟨w4.heap.size + 1, 0, none⟩), .pointer (some ⟨w4.heap.size + 1 + 1, 0, none⟩)] 67 (0, 0)) := h6.1.at 1 (by rw [HLS.out]; rfl)
      have c0 : w6.cell? ⟨w4.heap.size, 0, none⟩ = some (.pointer (some ⟨ta, 0, none⟩)) := blk_cell l1 rfl
      have c1 : w6.cell? ⟨w4.heap.size, 1, none⟩ = some (.pointer (some ⟨tb, 0, none⟩)) := blk_cell l1 rfl
      have c2 : w6.cell? ⟨w4.heap.size + 1 + 1 + 1, 0, none⟩ = some (.pointer (some ⟨w4.heap.size + 1, 0, none⟩)) := blk_cell l2 rfl
      have c3 : w6.cell? ⟨w4.heap.size + 1 + 1 + 1, 1, none⟩ = some (.pointer (some ⟨w4.heap.size + 1 + 1, 0, none⟩)) := blk_cell l2 rfl
      have HA3 := Lib.hid (show Calls Try.prog 31 #[.pointer (some ⟨w4.heap.size + 1 + 1 + 1 + 1, 0, none⟩), .pointer (some ⟨ta, 0, none⟩), .pointer (some ⟨tb, 0, none⟩), .pointer (some ⟨w4.heap.size + 1, 0, none⟩), .pointer (some ⟨w4.heap.size + 1 + 1, 0, none⟩)] w6 (fun e w' => e = .returned (.bool true) ∧ Fresh W w') from by
        obtain ⟨hm5, hF1, hs0, hs1⟩ := HM5.out
        have hX : X5.length = F5.length := by have := congrArg List.length hm5.same; simp at this; omega
        have h7 : ASt ⟨1, 2, 3, 4, ta, tb, w4.heap.size + 1, w4.heap.size + 1 + 1, La, Lb, w4.heap.size + 1 + 1 + 1 + 1, w6, tg5⟩ w6 tg5 sum5 vL5 vW5 F5 X5 [] [] [] := ⟨h6.1.cl, h6.1.pa, h6.1.pb, h6.1.qa, h6.1.qb, h6.1.kb, h6.1.rn, h6.1.an, h6.1.lo, h6.1.rm, h6.1.old, h6.1.ext, fun _ q => by cases q⟩
        exact (asks_walk ⟨1, 2, 3, 4, ta, tb, w4.heap.size + 1, w4.heap.size + 1 + 1, La, Lb, w4.heap.size + 1 + 1 + 1 + 1, w6, tg5⟩ ⟨hm5.fit.tags, hm5.fit.ra, hm5.fit.rb, HOK.out.1, HOK.out.2⟩ False h7 (fun q => q.elim) hs0 hs1 hF1 (by omega)).mono fun e w' hpost => MSt.askedFresh (V0 := W) (c := ⟨1, 2, 3, 4, ta, tb, w4.heap.size + 1, w4.heap.size + 1 + 1, La, Lb, w4.heap.size + 1 + 1 + 1 + 1, w6, tg5⟩) h6.2 hm5.z hpost)
      clear ho h6 l1 l2
      go_wp2_with fail
      refine HA3.out.mono ?_
      rintro e w7 ⟨rfl, hf7⟩
      have HF7 := Lib.hid hf7
      clear hf7 c0 c1 c2 c3
      go_wp2_with fail
      go_ret
      exact ⟨rfl, HF7.out⟩
end Go.Proofs.Ytihjpbalkjhjbaa
namespace Go.Proofs.Ytihjpbalkjhjbaa
theorem bulk_pos {H : Type} (d : DataW H) : 1 ≤ Rows.uptoBulk d := by
  cases d with
  | lit l => cases l <;> simp [Rows.uptoBulk]
  | _ => simp [Rows.uptoBulk]
end Go.Proofs.Ytihjpbalkjhjbaa
namespace Go.Proofs.Ytihjpbalkjhjbaa
open Go.ChangeShapes Go.WideShapes Go.RowKit Go.Deep Go.Proofs.YtihjpbalkjhjbaaW.PrintWords
section
variable {H : Type} {enc : TypeId × Value → H} {P : Program} {W : World} {sp : Nat → Bool} {held : Bool}
/-- sz: so much of the bound a value takes at least -/
def OpensB (enc : TypeId × Value → H) (P : Program) (W : World) (sp : Nat → Bool) (held : Bool) (t : TypeId) {α : Type} (K : Kd α) (sz : α → Nat) : Prop :=
  ∀ (fuel base : Nat) (cs : List Value) (x : DataW H × List MemPlace), DataW.trod enc P W base sp held fuel t cs = some x → ∃ a, K.K W a cs ∧ sz a ≤ Rows.uptoBulk x.1
theorem OpensB.imp {t : TypeId} {α : Type} {K : Kd α} {sz sz' : α → Nat} (h : OpensB enc P W sp held t K sz) (hs : ∀ a, sz' a ≤ sz a) : OpensB enc P W sp held t K sz' := fun fuel base cs x hx =>
  let ⟨a, h1, h2⟩ := h fuel base cs x hx
  ⟨a, h1, Nat.le_trans (hs a) h2⟩
theorem opensB_int {t : TypeId} {k : IntKind} (ht : P.underlying t = some (.int k)) : OpensB enc P W sp held t (Kd.int k) (fun _ => 1) := by
  intro fuel base cs x h
  obtain ⟨n, h1, _, h2⟩ := DataW.trod_int ht h
  exact ⟨n, h1, bulk_pos _⟩
theorem opensB_string {t : TypeId} (ht : P.underlying t = some .string) : OpensB enc P W sp held t Kd.string (fun s => s.size + 1) := by
  intro fuel base cs x h
  obtain ⟨s, h1, h2, _⟩ := DataW.trod_string ht h
  refine ⟨s, h1, ?_⟩
  rw [h2]
  simp [Rows.uptoBulk]
theorem blist_of_ex {α : Type} {p : Nat → α → Prop} : ∀ n : Nat, (∀ i, i < n → ∃ a, p i a) → ∃ l : List α, l.length = n ∧ ∀ i a, l[i]? = some a → p i a := by
  intro n
  induction n with
  | zero => intro _; exact ⟨[], rfl, fun i a h => by simp at h⟩
  | succ n ih =>
    intro h
    obtain ⟨l, h1, h2⟩ := ih fun i hi => h i (by omega)
    obtain ⟨a, ha⟩ := h n (by omega)
    refine ⟨l ++ [a], by simp [h1], fun i b hb => ?_⟩
    rcases Nat.lt_or_ge i l.length with q | q
    · rw [List.getElem?_append_left q] at hb
      exact h2 i b hb
    · rw [List.getElem?_append_right q] at hb
      rcases Nat.eq_zero_or_pos (i - l.length) with z | z
      · rw [z] at hb
        obtain rfl := Option.some.inj hb
        obtain rfl : i = n := by omega
        exact ha
      · rw [List.getElem?_eq_none (by simp; omega)] at hb
        cases hb
theorem bulk_sum {α : Type} {sz : α → Nat} : ∀ (l : List α) (ds : List (DataW H)), l.length = ds.length → (∀ (i : Nat) (a : α) (d : DataW H), l[i]? = some a → ds[i]? = some d → sz a ≤ Rows.uptoBulk d) → (l.map sz).sum ≤ Rows.uptoBulkAll ds
  | [], _, _, _ => Nat.zero_le _
  | a :: l, [], h, _ => by simp at h
  | a :: l, d :: ds, h, hs => by
    have h1 := bulk_sum l ds (by simpa using h) fun i a' d' q1 q2 => hs (i + 1) a' d' (by simpa using q1) (by simpa using q2)
    have h2 := hs 0 a d rfl rfl
    simp only [List.map_cons, List.sum_cons, Rows.uptoBulkAll]
    omega
theorem opensB_slice {t e : TypeId} {α : Type} {K : Kd α} {sz : α → Nat} (ht : P.underlying t = some (.slice e)) (hc : P.cellsOf e = K.sz) (h : OpensB enc P W sp held e K sz) :
    OpensB enc P W sp held t (Kd.slice e K) (fun l => (l.map sz).sum + 1) := by
  intro fuel base cs x hx
  rcases open_slice ht hx with ⟨rfl, _⟩ | ⟨a, len, cap, m, n, D, Pl, rfl, _, hl, hm, hmm, rfl, hi⟩
  · exact ⟨[], ⟨none, 0, rfl, Nat.le_refl _, rfl, Nat.zero_le _, fun q => by cases q⟩, by simpa using bulk_pos x.1⟩
  · have hlm : len ≤ m := by rw [hmm]; split <;> omega
    obtain ⟨l, l1, l2⟩ := blist_of_ex (p := fun i (y : α) => (∃ c : List Value, c.length = K.sz ∧ K.K W y c ∧ ∀ j u, c[j]? = some u → W.cell? (a.add (i * K.sz + j)) = some u) ∧ sz y ≤ Rows.uptoBulk (D i)) len fun i hin => by
      obtain ⟨cs', c1, c2⟩ := hi i (by omega)
      obtain ⟨y, y1, y2⟩ := h _ _ _ _ c2
      obtain ⟨_, c3, c4⟩ := World.cells?_some c1
      rw [hc] at c3 c4
      refine ⟨y, ⟨cs', c3, y1, fun j u hu => ?_⟩, y2⟩
      have hj : j < K.sz := by rw [← c3]; exact (List.getElem?_eq_some_iff.1 hu).1
      have := c4 j hj
      rw [hu, Go.Deep.add_add] at this
      exact this
    subst l1
    unfold maxLen at hm
    refine ⟨l, ⟨some a, cap, rfl, hl, rfl, by omega, fun _ => ⟨a, rfl, fun j p hp => (l2 j p hp).1⟩⟩, ?_⟩
    have hs := bulk_sum (sz := sz) l ((List.range l.length).map D) (by simp) fun i y d q1 q2 => by
      have hil := (List.getElem?_eq_some_iff.1 q1).1
      rw [List.getElem?_map, List.getElem?_range hil] at q2
      cases q2
      exact (l2 i y q1).2
    simp only [Rows.uptoBulk]
    omega
def OpensFB (enc : TypeId × Value → H) (P : Program) (W : World) (sp : Nat → Bool) (held : Bool) (fs : List Field) (off : Nat) {α : Type} (K : Kd α) (sz : α → Nat) : Prop :=
  ∀ (n base : Nat) (cs : List Value) (ys : List (DataW H × List MemPlace)), (∀ (i : Nat) (f : Field), fs[i]? = some f → DataW.trod enc P W base sp held n f.type ((cs.drop f.offset).take (P.cellsOf f.type)) = ys[i]?) →
    ys.length = fs.length → cs.length = off + K.sz → ∃ a, K.K W a (cs.drop off) ∧ sz a ≤ Rows.uptoBulkAll (ys.map (·.1))
theorem opensFB_one {f : Field} {off : Nat} {α : Type} {K : Kd α} {sz : α → Nat} (ho : f.offset = off) (hc : P.cellsOf f.type = K.sz) (h : OpensB enc P W sp held f.type K sz) : OpensFB enc P W sp held [f] off K sz := by
  intro n base cs ys hy hl hcs
  match ys, hl with
  | [y], _ =>
    have h0 := hy 0 f rfl
    rw [ho, hc, List.take_of_length_le (by rw [List.length_drop]; omega)] at h0
    obtain ⟨a, h1, h2⟩ := h _ _ _ _ h0
    exact ⟨a, h1, by simpa [Rows.uptoBulkAll] using h2⟩
theorem opensFB_cons {f : Field} {fs : List Field} {off : Nat} {α β : Type} {K0 : Kd α} {sz0 : α → Nat} {K1 : Kd β} {sz1 : β → Nat} (ho : f.offset = off) (hc : P.cellsOf f.type = K0.sz) (h0 : OpensB enc P W sp held f.type K0 sz0) (h1 : OpensFB enc P W sp held fs (off + K0.sz) K1 sz1) :
    OpensFB enc P W sp held (f :: fs) off (Kd.pair K0 K1) (fun p => sz0 p.1 + sz1 p.2) := by
  intro n base cs ys hy hl hcs
  match ys, hl with
  | y :: ys, hl =>
    have e0 := hy 0 f rfl
    rw [ho, hc] at e0
    have hcs' : cs.length = off + (K0.sz + K1.sz) := hcs
    obtain ⟨a, a1, a2⟩ := h0 _ _ _ _ e0
    obtain ⟨b, b1, b2⟩ := h1 n base cs ys (fun i g hg => hy (i + 1) g hg) (by simpa using hl) (by omega)
    refine ⟨(a, b), ⟨_, _, ?_, a1, b1⟩, ?_⟩
    · rw [← List.drop_drop, List.take_append_drop]
    · simp only [List.map_cons, Rows.uptoBulkAll]
      omega
theorem opensB_struct {t : TypeId} {fs : Array Field} {α β : Type} {K : Kd α} {sz : α → Nat} (f : β → α) (g : α → β) (hfg : ∀ a, f (g a) = a) (ht : P.underlying t = some (.struct fs)) (hc : P.cellsOf t = K.sz) (h : OpensFB enc P W sp held fs.toList 0 K sz) :
    OpensB enc P W sp held t (Kd.iso K f) (fun b => sz (f b) + 1) := by
  intro fuel base cs x hx
  obtain ⟨ys, n, _, rfl, hl, hyl, hf⟩ := DataW.trod_struct ht hx
  obtain ⟨a, a1, a2⟩ := h n base cs ys (fun i q hq => hf i q (by simpa using hq)) (by simpa using hyl) (by rw [hl, hc, Nat.zero_add])
  refine ⟨g a, by show K.K W (f (g a)) cs; rw [hfg]; exact a1, ?_⟩
  simp only [Rows.uptoBulk, hfg]
  omega
/-- a slice that a law takes -/
theorem opensB_arg {t e : TypeId} {α : Type} {K : Kd α} {sz : List α → Nat} {A : Option Addr} {n c : Nat} {d : DataW H} {p : List MemPlace} (ht0 : P.underlying t = some (.slice e)) (h : OpensB enc P W (fun _ => true) held t (Kd.slice e K) sz) {base : Nat} (ht : DataW.Trod enc P W base (fun _ => true) held t (.slice A n c) d p) :
    ∃ l : List α, n = l.length ∧ l.length ≤ c ∧ Kd.C K W A l.length l ∧ sz l ≤ Rows.uptoBulk d ∧ c ≤ 9223372036854775807 := by
  obtain ⟨fuel, hf⟩ := ht
  have hcap : c ≤ 9223372036854775807 := by
    rcases open_slice ht0 hf with ⟨q, _⟩ | ⟨a, len, cap, m, n', D, Pl, q, _, hl, hm, hmm, _, hi⟩
    · simp [Value.cells] at q
      omega
    · simp [Value.cells] at q
      obtain ⟨_, _, q⟩ := q
      have hm' : m = cap := by simpa using hmm
      unfold maxLen at hm
      omega
  obtain ⟨l, ⟨A', c', h1, h2, h3⟩, h4⟩ := h _ _ _ _ hf
  have h1' : [Value.slice A n c] = [Value.slice A' l.length c'] := h1
  injection h1' with h1' _
  injection h1' with e1 e2 e3
  subst e1; subst e3
  exact ⟨l, e2, h2, h3, h4, hcap⟩
end
end Go.Proofs.Ytihjpbalkjhjbaa
namespace Go.Proofs.Ytihjpbalkjhjbaa
open Go.ChangeShapes Go.WideShapes Go.ChangeAt Go.RowKit Go.Deep
theorem own : ownKnob Try.prog.godebug = none := by kernel_rfl
theorem laidOut : laidOutB Try.prog = true := by kernel_rfl
section
variable {H : Type} {enc : TypeId × Value → H} {P : Program} {w : World} {base : Nat} {spare : Nat → Bool} {held : Bool}
end
end Go.Proofs.Ytihjpbalkjhjbaa
namespace Go.Proofs.Ytihjpbalkjhjbaa
open Go.ChangeShapes Go.WideShapes Go.ChangeAt Go.RowKit Go.Deep Go.Proofs.YtihjpbalkjhjbaaW.PrintWords Go.Proofs.Ytihjpbalkjhjbaa.PTableEnds
theorem sum_ones {α : Type} (l : List α) : l.length ≤ (l.map fun _ => 1).sum := by
  induction l with
  | nil => exact Nat.zero_le _
  | cons a l ih =>
    simp only [List.map_cons, List.sum_cons, List.length_cons]
    omega
section
variable {H : Type} {enc : TypeId × Value → H} {W : World} {sp : Nat → Bool} {held : Bool}
theorem oOp : OpensB enc Try.prog W sp held 23 k23 (fun _ => 1) :=
  (opensB_struct (fun x : POp => (x.f0, x.f1, x.f2)) (fun a => ⟨a.1, a.2.1, a.2.2⟩) (fun _ => rfl) Try.underlying23 (by kernel_rfl) (opensFB_cons rfl (by kernel_rfl) (opensB_int Try.underlying3) (opensFB_cons rfl (by kernel_rfl) (opensB_int Try.underlying3) (opensFB_one rfl (by kernel_rfl) (opensB_string Try.underlying9))))).imp fun _ => by omega
end
section
variable {H : Type} {enc : TypeId × Value → H} {W : World} {sp : Nat → Bool} {held : Bool}
theorem oStp : OpensB enc Try.prog W sp held 72 kStp (fun _ => 1) :=
  (opensB_struct (fun x : PStp => (x.f0, x.f1)) (fun a => ⟨a.1, a.2⟩) (fun _ => rfl) Try.underlying72 (by kernel_rfl) (opensFB_cons rfl (by kernel_rfl) (opensB_int Try.underlying3) (opensFB_one rfl (by kernel_rfl) oOp))).imp fun _ => by omega
theorem oStps : OpensB enc Try.prog W sp held 64 (Kd.slice 72 kStp) (fun l => l.length + 1) :=
  (opensB_slice Try.underlying64 (by kernel_rfl) oStp).imp fun l => Nat.succ_le_succ (sum_ones l)
end
end Go.Proofs.Ytihjpbalkjhjbaa
