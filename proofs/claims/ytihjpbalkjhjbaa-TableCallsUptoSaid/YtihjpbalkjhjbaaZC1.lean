/- Steps towards the law (texts of this seat, put into one). No conditions of its own beyond those that its theorems name. -/
import Derived.Test.YtihjpbalkjhjbaaZC0
import Derived.Deep.RegionLaw
import Derived.BigQuiet
import Derived.Test.YtihjpbalkjhjbaaPTableEndsx1
import Derived.Laws.MakeOwn
import Derived.Test.YtihjpbalkjhjbaaGX
import Derived.Laws.Rows
import Derived.Test.YtihjpbalkjhjbaaGM
namespace Go.Proofs.Ytihjpbalkjhjbaa
open Go.RowKit Go.MapKept Go.MuLone
theorem alloc_size (w : World) (o : Obj) : (w.alloc o).heap.size = w.heap.size + 1 := by simp
theorem heap_alloc_old {w : World} {b : Nat} (h : b < w.heap.size) (o : Obj) : (w.alloc o).heap[b]? = w.heap[b]? := Below.heap_alloc w o b h
/-- ahead of the i-th stripe's map -/
structure NewS (w wr : World) (tb i : Nat) (cs : Array Value) : Prop where
  blk : wr.heap[tb]? = some (.cells cs 89 (0, 0))
  lock : ∀ j, j < 8 → cs[j * 3]? = some (.int .i32 0)
  sz : cs.size = 24
  maps : ∀ j, j < i → cs[j * 3 + 2]? = some (.map (some (tb + 1 + j))) ∧ IMap wr (tb + 1 + j) fun _ => none
  hs : wr.heap.size = tb + 1 + i
  fr : Fresh w wr
theorem NewS.step {w wr : World} {tb i : Nat} {cs : Array Value} (h : NewS w wr tb i cs) (hw : w.heap.size ≤ tb) (hi : i < 8) :
    NewS w ((wr.setCell ⟨tb, i * 3 + 2, none⟩ (.map (some wr.heap.size))).alloc (.map #[] 0)) tb (i + 1) (cs.setIfInBounds (i * 3 + 2) (.map (some wr.heap.size))) := by
  have hs := h.hs
  have hsz := h.sz
  have hss : (wr.setCell ⟨tb, i * 3 + 2, none⟩ (.map (some wr.heap.size))).heap.size = wr.heap.size := by simp [World.setCell]
  have hb : ∀ b, b ≠ tb → b < wr.heap.size → ((wr.setCell ⟨tb, i * 3 + 2, none⟩ (.map (some wr.heap.size))).alloc (.map #[] 0)).heap[b]? = wr.heap[b]? := fun b hb hlt => (heap_alloc_old (by rw [hss]; exact hlt) _).trans (Below.heap_setCell _ _ _ b hb)
  refine ⟨blk_alloc (blk_set h.blk _ _) _, fun j hj => ?_, by simpa using hsz, fun j hj => ?_, by rw [alloc_size, hss, hs]; omega, (h.fr.setCell (.inr hw) _).alloc _⟩
  · rw [Array.getElem?_setIfInBounds_ne (by omega)]
    exact h.lock j hj
  · by_cases e : j = i
    · subst e
      refine ⟨by rw [Array.getElem?_setIfInBounds, if_pos rfl, if_pos (by omega), hs], ?_⟩
      have hm := IMap.made (wr.setCell ⟨tb, j * 3 + 2, none⟩ (.map (some wr.heap.size)))
      rw [hss] at hm
      rw [← hs]
      exact hm
    · obtain ⟨k1, k2⟩ := h.maps j (by omega)
      refine ⟨by rw [Array.getElem?_setIfInBounds_ne (by omega)]; exact k1, k2.of_block (hb _ (by omega) (by omega))⟩
theorem NewS.done {w wr : World} {tb : Nat} {cs : Array Value} (h : NewS w wr tb 8 cs) (hw : w.heap.size ≤ tb) :
    ∃ lab, TabAt wr tb lab (fun _ => none) ∧ Fresh w wr ∧ ∀ b, lab b ≠ none → w.heap.size ≤ b := by
  have hs := h.hs
  let lab : TLab := fun b => if b = tb then some (0, 0) else if tb < b ∧ b ≤ tb + 8 then some (1, ((b - tb - 1 : Nat) : Int)) else none
  have hl : ∀ b, lab b ≠ none → tb ≤ b ∧ b ≤ tb + 8 := fun b hb => by
    have hb' : (if b = tb then some ((0 : Nat), (0 : Int)) else if tb < b ∧ b ≤ tb + 8 then some (1, ((b - tb - 1 : Nat) : Int)) else none) ≠ none := hb
    split at hb'
    · omega
    · split at hb'
      · omega
      · exact absurd rfl hb'
  refine ⟨lab, ⟨fun j => tb + 1 + j, fun _ _ => none, cs, h.blk, h.lock, fun j hj => (h.maps j hj).1, if_pos rfl, fun j hj => (h.maps j hj).2, fun j hj => ?_, fun j hj k => ?_, fun b hb => ?_⟩, h.fr, fun b hb => Nat.le_trans hw (hl b hb).1⟩
  · show (if tb + 1 + j = tb then _ else _) = _
    rw [if_neg (by omega), if_pos (by omega)]
    congr 2
    omega
  · split <;> trivial
  · have := hl b hb
    omega
set_option maxRecDepth 100000 in
set_option maxHeartbeats 1000000 in
theorem tnew (w : World) : Calls Try.prog 11 #[] w fun e w' => ∃ tb lab, e = .returned (.pointer (some ⟨tb, 0, none⟩)) ∧ TabAt w' tb lab (fun _ => none) ∧ Fresh w w' ∧ ∀ b, lab b ≠ none → w.heap.size ≤ b := by
  go_enter Try.func11, Try.ntmps11
  go_wp2_with fail
  go_loopw [5] (fun s5 wr => ∃ (i : Nat) (cs : Array Value), i ≤ 8 ∧ s5 = .int .i64 i ∧ NewS w wr w.heap.size i cs) (fun s5 _ => 8 - (intOf s5).toNat)
  case atStart =>
    refine ⟨0, _, Nat.zero_le _, rfl, new_blk _, ?_, ?_, fun j hj => absurd hj (by omega), by simp, alloc_only _ _⟩
    · intro j hj
      rcases j with _ | _ | _ | _ | _ | _ | _ | _ | j <;> first | rfl | omega
    · rfl
  case round =>
    obtain ⟨i, cs, hi, rfl, hS⟩ := hrel
    have HS := Lib.hid hS
    have hsz := hS.sz
    have hs := hS.hs
    have c2 : i < 8 → ∃ v, wr.cell? ⟨w.heap.size, i * 3 + 2, none⟩ = some v := fun h => ⟨cs[i * 3 + 2]'(by omega), blk_cell hS.blk (Array.getElem?_eq_getElem _)⟩
    have fz := blk_frozen hS.blk (i * 3 + 2)
    have hl := blk_lt hS.blk
    have HSZ := Lib.hid (And.intro hsz hs)
    clear hS hsz hs
    by_cases hlt : i < 8
    · obtain ⟨v, c2⟩ := c2 hlt
      have hlI : (i : Int) < 8 := by omega
      have hlD : decide ((i : Int) < 8) = true := by simp; omega
      have hmm := @run_makeMap Try.prog
      go_wp2_with fail
      go_roundw
      case rel => exact ⟨i + 1, _, by omega, by go_num, HS.out.step (Nat.le_refl _) hlt⟩
      case measure => simp [intOf]; omega
    · clear c2
      have hlD : decide ((i : Int) < 8) = false := by simp; omega
      go_wp2_with fail
      go_ret
      obtain rfl : i = 8 := by omega
      obtain ⟨lab, h⟩ := HS.out.done (Nat.le_refl _)
      exact ⟨w.heap.size, lab, rfl, h⟩
end Go.Proofs.Ytihjpbalkjhjbaa
namespace Go.Proofs.Ytihjpbalkjhjbaa
open Go.RowKit Go.MapKept Go.MuLone Go.Shelf Go.Proofs.YtihjpbalkjhjbaaW.PrintWords
/-! #### the play, plainly -/
def okB (o : POp) : Bool := decide (1 ≤ o.f0) && decide (o.f0 ≤ 3)
def newC (ops : List POp) : PCl := ⟨ops, false, 0, none⟩
def initP (l0 : List (List POp)) : PSt := ⟨l0.map fun ops => newC (ops.filter okB), fun _ => false, [], []⟩
def nextP (S : PSt) (n : Nat) : PSt :=
  match S.cls[n]? with
  | none => S
  | some c => match c.ops with
    | [] => S
    | o :: rest => stepP S n c o rest
/-- rounds of a play: from (who is next, what is left of the script) on -/
inductive Plays : PSt → Int × List Int → PSt → Int × List Int → Prop
  | refl (S : PSt) (r : Int × List Int) : Plays S r S r
  | step {S0 : PSt} {r0 : Int × List Int} {S : PSt} {r : Int × List Int} : Plays S0 r0 S r → 0 ≤ r.1 → Plays S0 r0 (nextP S r.1.toNat) (pickP (nextP S r.1.toNat) r.2 r.1)
/-- a play's history -/
def PlayEnd (l0 : List (List POp)) (scr : List Int) (H : List PMo) : Prop :=
  if 64 < l0.length then H = [] else ∃ S r, Plays (initP l0) (pickP (initP l0) scr (-1)) S r ∧ r.1 < 0 ∧ H = S.hist
/-- how many rounds are left, at most -/
def costC (c : PCl) : Nat :=
  match c.ops with
  | [] => 0
  | _ :: rest => 11 * rest.length + (if c.begun = false then 11 else if c.reply.isSome = true then 1 else 10 - c.lockd)
def mu (S : PSt) : Nat := (S.cls.map costC).sum
theorem sum_set : ∀ (l : List Nat) (n a b : Nat), l[n]? = some a → (l.set n b).sum + a = l.sum + b
  | [], n, a, b, h => by simp at h
  | x :: l, 0, a, b, h => by
    simp at h
    subst h
    simp
    omega
  | x :: l, n + 1, a, b, h => by
    have := sum_set l n a b (by simpa using h)
    simp
    omega
theorem mu_set {S : PSt} {n : Nat} {c c' : PCl} (hn : S.cls[n]? = some c) {lk : Nat → Bool} {L : List (Int × ByteArray)} {H : List PMo} : mu ⟨S.cls.set n c', lk, L, H⟩ + costC c = mu S + costC c' := by
  unfold mu
  simp only
  rw [List.map_set]
  exact sum_set _ _ _ _ (by rw [List.getElem?_map, hn]; rfl)
/-- what each round keeps -/
structure PInv (M : Nat) (S : PSt) : Prop where
  ok : ∀ (i : Nat) (c : PCl), S.cls[i]? = some c → (∀ o ∈ c.ops, OpOk o) ∧ c.lockd ≤ 8
  hist : S.hist.length + mu S ≤ M
  keys : S.L.length + mu S ≤ M
theorem PInv.step {M : Nat} {S : PSt} (h : PInv M S) {n : Nat} {c : PCl} (hn : S.cls[n]? = some c) {o : POp} {rest : List POp} (ho : c.ops = o :: rest) : PInv M (stepP S n c o rest) ∧ mu (stepP S n c o rest) < mu S ∧ (stepP S n c o rest).cls.length = S.cls.length := by
  obtain ⟨hok, h8⟩ := h.ok n c hn
  have hok2 : ∀ {c' : PCl}, (∀ o ∈ c'.ops, OpOk o) ∧ c'.lockd ≤ 8 → ∀ (i : Nat) (d : PCl), (S.cls.set n c')[i]? = some d → (∀ o ∈ d.ops, OpOk o) ∧ d.lockd ≤ 8 := fun {c'} q i d hd => by
    rw [List.getElem?_set] at hd
    split at hd
    · split at hd
      · injection hd with hd
        rw [← hd]
        exact q
      · cases hd
    · exact h.ok i d hd
  have hh := h.hist
  have hk := h.keys
  have hcost : costC c = 11 * rest.length + (if c.begun = false then 11 else if c.reply.isSome = true then 1 else 10 - c.lockd) := by unfold costC; rw [ho]
  unfold stepP
  split
  · rename_i hb
    rw [if_pos hb] at hcost
    have hm := mu_set (c' := { c with begun := true }) hn (lk := S.lk) (L := S.L) (H := S.hist ++ [⟨n, true, o, zRep⟩])
    have hc' : costC { c with begun := true } ≤ 11 * rest.length + 10 := by
      unfold costC
      simp only [ho]
      simp
      split <;> omega
    refine ⟨⟨hok2 ⟨hok, h8⟩, ?_, ?_⟩, ?_, by simp⟩
    · simp only [List.length_append, List.length_singleton]
      omega
    · show S.L.length + _ ≤ M
      omega
    · omega
  · rename_i hb
    rw [if_neg hb] at hcost
    split
    · rename_i r hr
      rw [hr] at hcost
      simp only [Option.isSome_some, if_true] at hcost
      have hm := mu_set (c' := { c with ops := rest, begun := false, reply := none }) hn (lk := S.lk) (L := S.L) (H := S.hist ++ [⟨n, false, o, r⟩])
      have hc' : costC { c with ops := rest, begun := false, reply := none } = 11 * rest.length := by
        unfold costC
        cases rest with
        | nil => rfl
        | cons a rest => simp; omega
      refine ⟨⟨hok2 ⟨fun o' q => hok o' (by rw [ho]; exact List.mem_cons_of_mem _ q), h8⟩, ?_, ?_⟩, ?_, by simp⟩
      · simp only [List.length_append, List.length_singleton]
        omega
      · show S.L.length + _ ≤ M
        omega
      · omega
    · rename_i hr
      rw [hr] at hcost
      simp only [Option.isSome_none, Bool.false_eq_true, if_false] at hcost
      split
      · rename_i h3
        have hm := mu_set (c' := { c with lockd := c.lockd + 1 }) hn (lk := fun j => if j = c.lockd then true else S.lk j) (L := S.L) (H := S.hist)
        have hc' : costC { c with lockd := c.lockd + 1 } = 11 * rest.length + (10 - (c.lockd + 1)) := by
          unfold costC
          simp [ho, hb, hr]
        refine ⟨⟨hok2 ⟨hok, by have := h3.2; show c.lockd + 1 ≤ 8; omega⟩, ?_, ?_⟩, ?_, by simp⟩
        · show S.hist.length + _ ≤ M
          omega
        · show S.L.length + _ ≤ M
          omega
        · omega
      · unfold effectP
        have hm := mu_set (c' := { c with reply := some (repOf S.L o), lockd := if o.f0 = 1 ∨ o.f0 = 2 then c.lockd else 0 }) hn (lk := if o.f0 = 1 ∨ o.f0 = 2 then S.lk else fun _ => false) (L := tabOf S.L o) (H := S.hist)
        have hc' : costC { c with reply := some (repOf S.L o), lockd := if o.f0 = 1 ∨ o.f0 = 2 then c.lockd else 0 } = 11 * rest.length + 1 := by
          unfold costC
          simp [ho, hb]
        have hL : (tabOf S.L o).length ≤ S.L.length + 1 := by
          unfold tabOf
          split
          · rw [putL_len]
            omega
          · omega
        refine ⟨⟨hok2 ⟨hok, by show (if _ then _ else _) ≤ 8; split <;> omega⟩, ?_, ?_⟩, ?_, by simp⟩
        · show S.hist.length + _ ≤ M
          omega
        · show (tabOf S.L o).length + _ ≤ M
          omega
        · omega
theorem canAt_get {S : PSt} {n : Nat} (h : canAt S n = true) : ∃ c o rest, S.cls[n]? = some c ∧ c.ops = o :: rest ∧ canB S c = true := by
  unfold canAt at h
  cases hc : S.cls[n]? with
  | none => rw [hc] at h; cases h
  | some c =>
    rw [hc] at h
    cases ho : c.ops with
    | nil => simp [canB, ho] at h
    | cons o rest => exact ⟨c, o, rest, rfl, ho, h⟩
theorem pick_can {S : PSt} {scr : List Int} {last : Int} (h : 0 ≤ (pickP S scr last).1) : canAt S (pickP S scr last).1.toNat = true := by
  have hmem : (pickP S scr last).1 ∈ readyTo S S.cls.length := by
    unfold pickP at h ⊢
    split
    · rename_i q
      rw [if_pos q] at h
      simp at h
    · rename_i q
      rw [if_neg q] at h
      have hpos : 0 < (readyTo S S.cls.length).length := List.length_pos_iff.2 q
      split
      · rename_i k t
        have h6 := Int.emod_nonneg k (b := ((readyTo S S.cls.length).length : Int)) (by omega)
        have h7 := Int.emod_lt_of_pos k (b := ((readyTo S S.cls.length).length : Int)) (by omega)
        have hlt : (k % ((readyTo S S.cls.length).length : Int)).toNat < (readyTo S S.cls.length).length := by omega
        rw [List.getElem?_eq_getElem hlt]
        exact List.getElem_mem hlt
      · simp only at h ⊢
        split
        · rw [List.getElem?_eq_getElem hpos]
          exact List.getElem_mem hpos
        · rename_i hr
          unfold roundTo at hr ⊢
          cases hf : (readyTo S S.cls.length).find? fun n => decide (last < n) with
          | none => rw [hf] at hr; simp at hr
          | some x => exact List.mem_of_find?_eq_some hf
  obtain ⟨n, hn, _, hc⟩ := readyTo_mem hmem
  rw [hn]
  simpa using hc
/-- a round that is valid -/
theorem next_valid {M : Nat} {S : PSt} (h : PInv M S) {n : Nat} (hc : canAt S n = true) : ∃ c o rest, S.cls[n]? = some c ∧ c.ops = o :: rest ∧ OpOk o ∧ nextP S n = stepP S n c o rest := by
  obtain ⟨c, o, rest, h1, h2, _⟩ := canAt_get hc
  exact ⟨c, o, rest, h1, h2, (h.ok n c h1).1 o (by rw [h2]; simp), by unfold nextP; rw [h1]; simp only [h2]⟩
theorem okB_ok {o : POp} (h : okB o = true) : OpOk o := by
  unfold okB at h
  simp only [Bool.and_eq_true, decide_eq_true_eq] at h
  unfold OpOk
  omega
theorem init_inv (l0 : List (List POp)) : PInv (mu (initP l0)) (initP l0) := by
  refine ⟨fun i c hc => ?_, by simp [initP], by simp [initP]⟩
  unfold initP at hc
  rw [List.getElem?_map, Option.map_eq_some_iff] at hc
  obtain ⟨ops, _, rfl⟩ := hc
  exact ⟨fun o ho => okB_ok (List.mem_filter.1 ho).2, Nat.zero_le _⟩
theorem mu_init (l0 : List (List POp)) : mu (initP l0) ≤ 11 * (l0.map List.length).sum := by
  unfold mu initP
  simp only [List.map_map]
  induction l0 with
  | nil => simp
  | cons a l ih =>
    simp only [List.map_cons, List.sum_cons, Function.comp]
    have h1 := List.length_filter_le okB a
    have h2 : costC (newC (a.filter okB)) = 11 * (a.filter okB).length := by
      unfold costC newC
      cases a.filter okB with
      | nil => rfl
      | cons x r => simp; omega
    have h3 : (l.map (costC ∘ fun ops => newC (ops.filter okB))).sum ≤ 11 * (l.map List.length).sum := ih
    simp only [Function.comp_def] at h3 ih ⊢
    omega
end Go.Proofs.Ytihjpbalkjhjbaa
namespace Go.Proofs.Ytihjpbalkjhjbaa
open Go.RowKit Go.MapKept Go.MuLone Go.Shelf Go.Proofs.YtihjpbalkjhjbaaW.PrintWords Go.Proofs.Ytihjpbalkjhjbaa.PTableEnds
/-! #### rounds that are told by picks -/
/-- what a round that may be done keeps holds behind all rounds -/
theorem Plays.keeps {P : PSt → Prop} (hstep : ∀ (S : PSt) (n : Nat) (c : PCl) (o : POp) (rest : List POp), P S → S.cls[n]? = some c → c.ops = o :: rest → canB S c = true → P (stepP S n c o rest))
    {S0 S : PSt} {r0 r : Int × List Int} (h : Plays S0 r0 S r) : P S0 → (∃ scr last, r0 = pickP S0 scr last) → P S ∧ ∃ scr last, r = pickP S scr last := by
  induction h with
  | refl => exact fun a b => ⟨a, b⟩
  | @step S r h hn ih =>
    intro a b
    obtain ⟨hP, scr, last, hr⟩ := ih a b
    refine ⟨?_, _, _, rfl⟩
    have hc := pick_can (S := S) (scr := scr) (last := last) (by rw [← hr]; exact hn)
    rw [← hr] at hc
    obtain ⟨c, o, rest, h1, h2, h3⟩ := canAt_get hc
    have e : nextP S r.1.toNat = stepP S r.1.toNat c o rest := by unfold nextP; rw [h1]; simp only [h2]
    rw [e]
    exact hstep S _ c o rest hP h1 h2 h3
/-! #### the locks -/
structure LInv (S : PSt) : Prop where
  idle : ∀ (n : Nat) (c : PCl), S.cls[n]? = some c → c.begun = false → c.reply = none ∧ c.lockd = 0
  held : ∀ (n : Nat) (c : PCl), S.cls[n]? = some c → 0 < c.lockd → c.reply = none ∧ ∃ o rest, c.ops = o :: rest ∧ o.f0 = 3
  one : ∀ (n n' : Nat) (c c' : PCl), S.cls[n]? = some c → S.cls[n']? = some c' → 0 < c.lockd → 0 < c'.lockd → n = n'
  most : ∀ (n : Nat) (c : PCl), S.cls[n]? = some c → c.lockd ≤ 8
  lks : ∀ j, S.lk j = true ↔ ∃ (n : Nat) (c : PCl), S.cls[n]? = some c ∧ j < c.lockd
theorem set_get {l : List PCl} {n i : Nat} {c d x : PCl} (hn : l[n]? = some x) : (l.set n c)[i]? = some d ↔ (i = n ∧ d = c) ∨ (i ≠ n ∧ l[i]? = some d) := by
  have hl := (List.getElem?_eq_some_iff.1 hn).1
  rw [List.getElem?_set]
  by_cases e : n = i
  · subst e
    rw [if_pos rfl, if_pos hl]
    constructor
    · intro q
      exact .inl ⟨rfl, (Option.some.inj q).symm⟩
    · rintro (⟨_, q⟩ | ⟨q, _⟩)
      · rw [q]
      · exact absurd rfl q
  · rw [if_neg e]
    constructor
    · exact fun q => .inr ⟨Ne.symm e, q⟩
    · rintro (⟨q, _⟩ | ⟨_, q⟩)
      · exact absurd q.symm e
      · exact q
/-- a client turns; what it holds stays -/
theorem LInv.quiet {S : PSt} (h : LInv S) {n : Nat} {c c' : PCl} (hn : S.cls[n]? = some c) (hl : c'.lockd = c.lockd) (hz : c.lockd = 0) (hi : c'.begun = false → c'.reply = none) {L : List (Int × ByteArray)} {H : List PMo} : LInv ⟨S.cls.set n c', S.lk, L, H⟩ := by
  refine ⟨fun i d hd hb => ?_, fun i d hd hp => ?_, fun i j d e hd he hp hq => ?_, fun i d hd => ?_, fun j => ?_⟩
  · rcases (set_get hn).1 hd with ⟨rfl, rfl⟩ | ⟨hin, hd⟩
    · exact ⟨hi hb, hl.trans hz⟩
    · exact h.idle i d hd hb
  · rcases (set_get hn).1 hd with ⟨rfl, rfl⟩ | ⟨hin, hd⟩
    · omega
    · exact h.held i d hd hp
  · rcases (set_get hn).1 hd with ⟨rfl, rfl⟩ | ⟨hin, hd⟩
    · omega
    · rcases (set_get hn).1 he with ⟨rfl, rfl⟩ | ⟨hjn, he⟩
      · omega
      · exact h.one i j d e hd he hp hq
  · rcases (set_get hn).1 hd with ⟨rfl, rfl⟩ | ⟨hin, hd⟩
    · omega
    · exact h.most i d hd
  · show S.lk j = true ↔ _
    rw [h.lks j]
    constructor
    · rintro ⟨i, d, hd, hj⟩
      have hin : i ≠ n := fun e => by
        subst e
        rw [hn] at hd
        cases hd
        omega
      exact ⟨i, d, (set_get hn).2 (.inr ⟨hin, hd⟩), hj⟩
    · rintro ⟨i, d, hd, hj⟩
      rcases (set_get hn).1 hd with ⟨rfl, rfl⟩ | ⟨hin, hd⟩
      · omega
      · exact ⟨i, d, hd, hj⟩
theorem LInv.step {S : PSt} (h : LInv S) {n : Nat} {c : PCl} (hn : S.cls[n]? = some c) {o : POp} {rest : List POp} (ho : c.ops = o :: rest) (hok : OpOk o) (hc : canB S c = true) : LInv (stepP S n c o rest) := by
  unfold stepP
  split
  · rename_i hb
    exact h.quiet (c' := { c with begun := true }) hn rfl (h.idle n c hn hb).2 (fun q => by cases q)
  · rename_i hb
    have hb1 : c.begun = true := by simpa using hb
    split
    · rename_i r hr
      have hz : c.lockd = 0 := by
        rcases Nat.eq_zero_or_pos c.lockd with q | q
        · exact q
        · have := (h.held n c hn q).1
          rw [hr] at this
          cases this
      exact h.quiet (c' := { c with ops := rest, begun := false, reply := none }) hn rfl hz (fun _ => rfl)
    · rename_i hr
      have hcan : (if o.f0 = 3 then decide (c.lockd = 8) || !S.lk c.lockd else !S.lk (placeN o.f1)) = true := by
        unfold canB at hc
        rw [ho] at hc
        simp only [hb1, hr] at hc
        simpa using hc
      split
      · rename_i h3
        have hfree : S.lk c.lockd = false := by
          rw [if_pos h3.1] at hcan
          have : c.lockd ≠ 8 := by omega
          simpa [this] using hcan
        have hz : ∀ (i : Nat) (d : PCl), S.cls[i]? = some d → 0 < d.lockd → i = n := fun i d hd hp => by
          rcases Nat.eq_zero_or_pos c.lockd with q | q
          · rw [q] at hfree
            have := (h.lks 0).2 ⟨i, d, hd, hp⟩
            rw [hfree] at this
            cases this
          · exact h.one i n d c hd hn hp q
        refine ⟨fun i d hd hb' => ?_, fun i d hd hp => ?_, fun i j d e hd he hp hq => ?_, fun i d hd => ?_, fun j => ?_⟩
        · rcases (set_get hn).1 hd with ⟨rfl, rfl⟩ | ⟨hin, hd⟩
          · exact absurd (show c.begun = false from hb') hb
          · exact h.idle i d hd hb'
        · rcases (set_get hn).1 hd with ⟨rfl, rfl⟩ | ⟨hin, hd⟩
          · exact ⟨hr, o, rest, ho, h3.1⟩
          · exact h.held i d hd hp
        · have e1 : i = n := by
            rcases (set_get hn).1 hd with ⟨q, _⟩ | ⟨hin, hd⟩
            · exact q
            · exact hz i d hd hp
          have e2 : j = n := by
            rcases (set_get hn).1 he with ⟨q, _⟩ | ⟨hin, he⟩
            · exact q
            · exact hz j e he hq
          rw [e1, e2]
        · rcases (set_get hn).1 hd with ⟨rfl, rfl⟩ | ⟨hin, hd⟩
          · show c.lockd + 1 ≤ 8
            omega
          · exact h.most i d hd
        · show (if j = c.lockd then true else S.lk j) = true ↔ _
          constructor
          · intro q
            by_cases e : j = c.lockd
            · exact ⟨n, { c with lockd := c.lockd + 1 }, (set_get hn).2 (.inl ⟨rfl, rfl⟩), by show j < c.lockd + 1; omega⟩
            · rw [if_neg e] at q
              obtain ⟨i, d, hd, hj⟩ := (h.lks j).1 q
              have := hz i d hd (by omega)
              subst this
              rw [hn] at hd
              cases hd
              exact ⟨i, { c with lockd := c.lockd + 1 }, (set_get hn).2 (.inl ⟨rfl, rfl⟩), by show j < c.lockd + 1; omega⟩
          · rintro ⟨i, d, hd, hj⟩
            by_cases e : j = c.lockd
            · rw [if_pos e]
            · rw [if_neg e]
              rcases (set_get hn).1 hd with ⟨rfl, rfl⟩ | ⟨hin, hd⟩
              · have hj' : j < c.lockd + 1 := hj
                exact (h.lks j).2 ⟨i, c, hn, by omega⟩
              · exact (h.lks j).2 ⟨i, d, hd, hj⟩
      · rename_i h3
        unfold effectP
        by_cases hf : o.f0 = 1 ∨ o.f0 = 2
        · have hz : c.lockd = 0 := by
            rcases Nat.eq_zero_or_pos c.lockd with q | q
            · exact q
            · obtain ⟨_, o', rest', ho', h3'⟩ := h.held n c hn q
              rw [ho] at ho'
              injection ho' with e _
              subst e
              omega
          simp only [if_pos hf]
          exact h.quiet (c' := { c with reply := some (repOf S.L o) }) hn rfl hz (fun q => absurd (show c.begun = false from q) hb)
        · simp only [if_neg hf]
          have hzero : ∀ (i : Nat) (d : PCl), (S.cls.set n { c with reply := some (repOf S.L o), lockd := 0 })[i]? = some d → o.f0 = 3 → d.lockd = 0 := fun i d hd h33 => by
            rcases (set_get hn).1 hd with ⟨rfl, rfl⟩ | ⟨hin, hd⟩
            · rfl
            · rcases Nat.eq_zero_or_pos d.lockd with q | q
              · exact q
              · have hm := h.most n c hn
                have h88 : ¬ c.lockd < 8 := fun q => h3 ⟨h33, q⟩
                exact absurd (h.one i n d c hd hn q (by omega)) hin
          by_cases h33 : o.f0 = 3
          · refine ⟨fun i d hd hb' => ?_, fun i d hd hp => ?_, fun i j d e hd he hp hq => ?_, fun i d hd => ?_, fun j => ?_⟩
            · rcases (set_get hn).1 hd with ⟨rfl, rfl⟩ | ⟨hin, hd⟩
              · exact absurd (show c.begun = false from hb') hb
              · exact h.idle i d hd hb'
            · have := hzero i d hd h33
              omega
            · have := hzero i d hd h33
              omega
            · have := hzero i d hd h33
              omega
            · constructor
              · intro q; cases q
              · rintro ⟨i, d, hd, hj⟩
                have := hzero i d hd h33
                omega
          · exact absurd hok (by unfold OpOk; omega)
theorem LInv.free {S : PSt} (h : LInv S) (hno : ∀ n, canAt S n = false) (n : Nat) (c : PCl) (hn : S.cls[n]? = some c) : c.ops = [] := by
  have hcan : ∀ (i : Nat) (d : PCl), S.cls[i]? = some d → canB S d = false := fun i d hd => by
    have := hno i
    unfold canAt at this
    rw [hd] at this
    exact this
  have hstuck : ∀ (i : Nat) (d : PCl), S.cls[i]? = some d → ¬ 0 < d.lockd := fun i d hd hp => by
    obtain ⟨hr, o, rest, ho, h3⟩ := h.held i d hd hp
    have hb : d.begun = true := by
      cases q : d.begun with
      | true => rfl
      | false => have := (h.idle i d hd q).2; omega
    have hc := hcan i d hd
    unfold canB at hc
    rw [ho] at hc
    simp [hb, hr, h3] at hc
    obtain ⟨i', d', hd', hj⟩ := (h.lks d.lockd).1 hc.2
    have := h.one i i' d d' hd hd' hp (by omega)
    subst this
    rw [hd] at hd'
    cases hd'
    omega
  have hlk : ∀ j, S.lk j = false := fun j => by
    cases q : S.lk j with
    | false => rfl
    | true =>
      obtain ⟨i, d, hd, hj⟩ := (h.lks j).1 q
      exact absurd (by omega) (hstuck i d hd)
  cases ho : c.ops with
  | nil => rfl
  | cons o rest =>
    have hc := hcan n c hn
    unfold canB at hc
    rw [ho] at hc
    simp only [hlk] at hc
    split at hc
    · cases hc
    · split at hc <;> simp at hc
end Go.Proofs.Ytihjpbalkjhjbaa
namespace Go.Proofs.Ytihjpbalkjhjbaa
open Go.RowKit Go.MapKept Go.MuLone Go.Shelf Go.Proofs.YtihjpbalkjhjbaaW.PrintWords
def opV (o : POp) : List Value := [.int .i64 o.f0, .int .i64 o.f1, .string o.f2]
/-- a client's calls, in a row of their own -/
abbrev OpsRow (w : World) (base : Nat) (v : Value) (ops : List POp) : Prop := OwnRow (fun (o : POp) cs => cs = opV o) 23 3 w base v ops
theorem OpsRow.at {w : World} {base : Nat} {v : Value} {ops : List POp} (h : OpsRow w base v ops) : OpsAt w v ops := by
  obtain ⟨inner, ho, hr⟩ := h
  rcases ho.2 with ⟨rfl, h0⟩ | ⟨g, cap, cur, rfl, hb, hg, hn, hm, hs, ht⟩
  · exact .inl ⟨rfl, List.eq_nil_of_length_eq_zero h0⟩
  · unfold maxLen at hm
    refine .inr ⟨g, 0, cap, cur, rfl, hn, by omega, hg, fun j o hj => ?_⟩
    have hR : (inner.drop (j * 3)).take 3 = opV o := hr.2 j o hj
    have e : ∀ k x, k < 3 → (opV o)[k]? = some x → cur[j * 3 + k]? = some x := fun k x hk hx => by
      rw [← hR, List.getElem?_take, if_pos hk, List.getElem?_drop, ← ht, List.getElem?_take] at hx
      split at hx
      · simpa using hx
      · cases hx
    rw [Nat.zero_add]
    exact ⟨e 0 _ (by omega) rfl, e 1 _ (by omega) rfl, e 2 _ (by omega) rfl⟩
theorem ownRow_keep {α : Type} {R : α → List Value → Prop} {e size : Nat} {w w1 : World} {base : Nat} {v : Value} {xs : List α} (h : OwnRow R e size w base v xs) (hk : ∀ g, v.ownBlock = some g → w1.heap[g]? = w.heap[g]?) : OwnRow R e size w1 base v xs := by
  obtain ⟨inner, ho, hr⟩ := h
  exact ⟨inner, own_move ho hk, hr⟩
/-- a client that is being made, its calls so far -/
structure FillIs (w0 w : World) (vo : Value) (ops : List POp) : Prop where
  fr : Fresh w0 w
  cl : w.heap[w0.heap.size]? = some (.cells #[vo, .bool false, .int .i64 0, .pointer none] 100 (0, 0))
  row : OpsRow w w0.heap.size vo ops
theorem FillIs.start (w0 : World) : FillIs w0 (w0.alloc (.cells #[.slice none 0 0, .bool false, .int .i64 0, .pointer none] 100)) (.slice none 0 0) [] :=
  ⟨alloc_only _ _, new_blk _, OwnRow.none_ _ _ _ _ _⟩
theorem FillIs.fresh {w0 w w1 : World} {vo : Value} {ops : List POp} (h : FillIs w0 w vo ops) (hf : Fresh w w1) : FillIs w0 w1 vo ops :=
  ⟨h.fr.trans' hf, hf.blk h.cl fun q => q, ownRow_keep h.row fun g hg => by
    obtain ⟨inner, ho, _⟩ := h.row
    exact hf.block g (ho.lt g hg).2 fun q => q⟩
theorem FillIs.add {w0 V w3 : World} {vo : Value} {ops : List POp} {o : POp} (h : FillIs w0 V vo ops) {inner : List Value} (hr : Reps (fun (o : POp) cs => cs = opV o) 3 ops inner) {A : Option Addr} {C : Nat} (hv : vo.ownBlock = none ∨ ∃ g, vo.ownBlock = some g ∧ ∃ cells, V.heap[g]? = some (.cells cells 23 (0, 0)))
    (hvb : ∀ g, vo.ownBlock = some g → w0.heap.size ≤ g)
    (hown : w3.ownsRow w0.heap.size 23 3 (.slice A (ops.length + 1) C) (ops.length + 1) (inner ++ opV o)) (hg : V.grownBy w3 vo.ownBlock) :
    FillIs w0 (w3.setCell ⟨w0.heap.size, 0, none⟩ (.slice A (ops.length + 1) C)) (.slice A (ops.length + 1) C) (ops ++ [o]) := by
  have hb3 : w3.heap[w0.heap.size]? = some (.cells #[vo, .bool false, .int .i64 0, .pointer none] 100 (0, 0)) := blk_grown h.cl hg fun e => by
    rcases hv with q | ⟨g, q, cells, q2⟩
    · rw [q] at e; cases e
    · rw [q] at e
      injection e with e
      rw [← e, h.cl] at q2
      injection q2 with q2
      injection q2 with _ q2 _
      exact absurd q2 (by decide)
  have hl : (ops ++ [o]).length = ops.length + 1 := by simp
  refine ⟨(h.fr.grown hg fun g q => .inr (hvb g q)).setCell (p := ⟨w0.heap.size, 0, none⟩) (.inr (Nat.le_refl _)) _, by simpa using blk_set hb3 0 (.slice A (ops.length + 1) C), ?_⟩
  have h0 : OpsRow w3 w0.heap.size (.slice A (ops.length + 1) C) (ops ++ [o]) := ⟨inner ++ opV o, by rw [hl]; exact hown, hr.snoc rfl rfl⟩
  refine ownRow_keep h0 fun g q => Below.heap_setCell _ ⟨w0.heap.size, 0, none⟩ _ g fun e => ?_
  obtain ⟨cells, q2⟩ := own_cells hown q
  have e2 : g = w0.heap.size := e
  rw [e2, hb3] at q2
  injection q2 with q2
  injection q2 with _ q2 _
  exact absurd q2 (by decide)
/-- a client more -/
theorem StIs.more {w w3 : World} {base sb : Nat} {S : PSt} {g : Gh} (h : StIs w base sb S g) {cbn : Nat} {vo : Value} {ops : List POp} (hb : w.heap[cbn]? = some (.cells #[vo, .bool false, .int .i64 0, .pointer none] 100 (0, 0))) (hops : OpsAt w vo ops)
    (hne : ∀ i, i < S.cls.length → g.cb i ≠ cbn) (hbase : base ≤ cbn) (hlen : S.cls.length < 64) {A : Option Addr} {C : Nat} {old : List Value} (hold : old = (List.range S.cls.length).map fun i => .pointer (some ⟨g.cb i, 0, none⟩))
    (hown : w3.ownsRow base 97 1 (.slice A (S.cls.length + 1) C) (S.cls.length + 1) (old ++ [.pointer (some ⟨cbn, 0, none⟩)])) (hg : w.grownBy w3 g.vc.ownBlock) :
    ∃ g', StIs (w3.setCell ⟨sb, 9, none⟩ (.slice A (S.cls.length + 1) C)) base sb ⟨S.cls ++ [newC ops], S.lk, S.L, S.hist⟩ g' := by
  have hg0 : ∀ b, g.vc.ownBlock = some b → ∃ cells, w.heap[b]? = some (.cells cells 97 (0, 0)) := fun b q => own_cells h.crow q
  have hk1 : KeepT w w3 fun t => t ≠ 97 := fun b cells t hb ht => hg.block b (blk_lt hb) fun e => by
    obtain ⟨c2, h2⟩ := hg0 b e.symm
    rw [h2] at hb
    injection hb with hb
    injection hb with _ hb _
    exact ht hb.symm
  have hs3 : w3.heap[sb]? = some (.cells (stageC g.tb S.lk g.vc g.vh) 96 (0, 0)) := (hk1 _ _ _ h.blk (by decide)).trans h.blk
  have hk : KeepT w (w3.setCell ⟨sb, 9, none⟩ (.slice A (S.cls.length + 1) C)) fun t => t ≠ 97 ∧ t ≠ 96 := (hk1.mono fun t q => q.1).trans (KeepT.set hs3 (fun q => q.2 rfl) 9 _)
  have hl : (S.cls ++ [newC ops]).length = S.cls.length + 1 := by simp
  have hold2 : old ++ [Value.pointer (some ⟨cbn, 0, none⟩)] = (List.range (S.cls.length + 1)).map fun i => .pointer (some ⟨if i = S.cls.length then cbn else g.cb i, 0, none⟩) := by
    rw [List.range_succ, List.map_append, hold]
    congr 1
    · refine List.map_congr_left fun i hi => ?_
      have := List.mem_range.1 hi
      rw [if_neg (by omega)]
    · simp
  refine ⟨{ g with vc := .slice A (S.cls.length + 1) C, cb := fun i => if i = S.cls.length then cbn else g.cb i, vo := fun i => if i = S.cls.length then vo else g.vo i, vr := fun i => if i = S.cls.length then .pointer none else g.vr i },
    blk_set hs3 9 _, ?_, h.rising, ?_, fun i c hc => ?_, fun i j hi hj => ?_, OutRowT.keepT h.hrow hk ⟨by decide, by decide⟩, h.hlen, fun j m q h4 h5 => (h.hmem j m q h4 h5).keepT hk ⟨by decide, by decide⟩ ⟨by decide, by decide⟩, by rw [hl]; omega, h.outS, h.outT, fun i hi => ?_⟩
  · refine (h.tab.keepT hk1 (by decide) (by decide) (fun i hi => hg.block _ (h.tab.maps i hi).lt fun e => ?_) hg.size).set hs3 (by decide) (by decide) 9 _
    obtain ⟨c2, h2⟩ := hg0 _ e.symm
    obtain ⟨es, ck, q, _⟩ := h.tab.maps i hi
    rw [q] at h2
    cases h2
  · show World.ownsRow _ base _ 1 _ (S.cls ++ [newC ops]).length ((List.range (S.cls ++ [newC ops]).length).map fun i => .pointer (some ⟨if i = S.cls.length then cbn else g.cb i, 0, none⟩))
    rw [hl, ← hold2]
    exact row_keepT hown (KeepT.set (ts := fun t => t = 97) hs3 (by decide) 9 _) rfl
  · have hc' : (S.cls ++ [newC ops])[i]? = some c := hc
    by_cases hi : i < S.cls.length
    · rw [List.getElem?_append_left hi] at hc'
      have q := h.cl i c hc'
      simp only [if_neg (show ¬ i = S.cls.length by omega)]
      exact ⟨(hk _ _ _ q.blk ⟨by decide, by decide⟩).trans q.blk, q.ops.keepT hk ⟨by decide, by decide⟩, q.rep.keepT hk ⟨by decide, by decide⟩ ⟨by decide, by decide⟩ ⟨by decide, by decide⟩, q.small⟩
    · have hi2 : i = S.cls.length := by
        have := (List.getElem?_eq_some_iff.1 hc').1
        rw [hl] at this
        omega
      subst hi2
      rw [List.getElem?_append_right (Nat.le_refl _), Nat.sub_self] at hc'
      cases hc'
      simp only [if_true]
      exact ⟨(hk _ _ _ hb ⟨by decide, by decide⟩).trans hb, hops.keepT hk ⟨by decide, by decide⟩, rfl, Nat.zero_le _⟩
  · have hi' : i < (S.cls ++ [newC ops]).length := hi
    have hj' : j < (S.cls ++ [newC ops]).length := hj
    rw [hl] at hi' hj'
    show (if i = S.cls.length then cbn else g.cb i) = (if j = S.cls.length then cbn else g.cb j) → i = j
    intro e
    split at e <;> split at e
    · omega
    · exact absurd e.symm (hne j (by omega))
    · exact absurd e (hne i (by omega))
    · exact h.cinj i j (by omega) (by omega) e
  · have hi' : i < (S.cls ++ [newC ops]).length := hi
    rw [hl] at hi'
    show base ≤ if i = S.cls.length then cbn else g.cb i
    split
    · exact hbase
    · exact h.outC i (by omega)
theorem init_take (l0 : List (List POp)) {i : Nat} (hi : i < l0.length) : initP (l0.take (i + 1)) = ⟨(initP (l0.take i)).cls ++ [newC ((l0[i]'hi).filter okB)], (initP (l0.take i)).lk, (initP (l0.take i)).L, (initP (l0.take i)).hist⟩ := by
  unfold initP
  rw [List.take_succ_eq_append_getElem hi, List.map_append]
  rfl
theorem init_len (l0 : List (List POp)) : (initP l0).cls.length = l0.length := by simp [initP]
/-- an empty stage -/
theorem StIs.none {w : World} {base tb : Nat} {lab : TLab} (h : TabAt w tb lab fun _ => none) (hl : ∀ b, lab b ≠ Option.none → base ≤ b) (hb : base ≤ w.heap.size) :
    ∃ g, StIs (w.alloc (.cells (stageC tb (fun _ => false) (.slice Option.none 0 0) (.slice Option.none 0 0)) 96)) base w.heap.size (initP []) g := by
  obtain ⟨bm, f, cs, h⟩ := h
  refine ⟨⟨tb, lab, bm, f, cs, .slice Option.none 0 0, .slice Option.none 0 0, fun _ => 0, fun _ => .slice Option.none 0 0, fun _ => .slice Option.none 0 0, fun _ => .slice Option.none 0 0, fun _ => .slice Option.none 0 0, []⟩,
    new_blk _, h.fresh (alloc_only _ _), List.Pairwise.nil, ⟨rfl, .inl ⟨rfl, rfl⟩⟩, fun i c hc => by simp [initP] at hc, fun i j hi => by simp [initP] at hi, OwnRow.none_ _ _ _ _ _, rfl, fun j m r hm => by simp [initP] at hm, Nat.zero_le _, hb, hl, fun i hi => by simp [initP] at hi⟩
/-- a history that was handed back: its rows, each reply's lists -/
def HistIs (w : World) (base : Nat) (v : Value) (H : List PMo) : Prop := ∃ rows, OutRowT w base v rows ∧ rows.length = H.length ∧ ∀ (j : Nat) (m : PMo) (r : List Value), H[j]? = some m → rows[j]? = some r → MoIs w base m r
end Go.Proofs.Ytihjpbalkjhjbaa
namespace Go.Proofs.Ytihjpbalkjhjbaa
open Go.RowKit Go.MapKept Go.MuLone Go.Shelf Go.Proofs.YtihjpbalkjhjbaaW.PrintWords Go.Proofs.Ytihjpbalkjhjbaa.PTableEnds
theorem tinfoOp : (Try.prog.info? 23).map (fun i => (i.zero, i.size, i.bytes)) = some (some (.agg #[(.int .i64 0), (.int .i64 0), (.string ⟨#[]⟩)]), 3, 32) := by kernel_rfl
theorem tinfoPCl : (Try.prog.info? 97).map (fun i => (i.zero, i.size, i.bytes)) = some (some (.pointer none), 1, 8) := by kernel_rfl
/-- what Play leaves -/
def PlayPost (w w' : World) (e : Ending) (l0 : List (List POp)) (scr : List Int) : Prop :=
  ∃ v H, e = .returned v ∧ PlayEnd l0 scr H ∧ HistIs w' w.heap.size v H ∧ Fresh w w'
theorem HistIs.lower {w : World} {base base' : Nat} {v : Value} {H : List PMo} (h : HistIs w base v H) (hb : base' ≤ base) : HistIs w base' v H := by
  obtain ⟨rows, ⟨inner, ho, hr⟩, h2, h3⟩ := h
  exact ⟨rows, ⟨inner, own_lower ho hb, hr⟩, h2, fun j m r q1 q2 => by
    obtain ⟨v7, v8, k1, k2, k3⟩ := h3 j m r q1 q2
    exact ⟨v7, v8, k1, own_lower k2 hb, own_lower k3 hb⟩⟩
/-- behind the making of the first i clients -/
structure MadeIs (w wr : World) (sb : Nat) (vs : Value) (l0 : List (List POp)) (i : Nat) (g : Gh) : Prop where
  st : StIs wr (w.heap.size + 1) sb (initP (l0.take i)) g
  fr : Fresh (w.alloc (.cells #[vs] 27)) wr
theorem MadeIs.box {w wr : World} {sb : Nat} {vs : Value} {l0 : List (List POp)} {i : Nat} {g : Gh} (h : MadeIs w wr sb vs l0 i g) : wr.heap[w.heap.size]? = some (.cells #[vs] 27 (0, 0)) := h.fr.blk (new_blk _) fun q => q
/-- in the rounds -/
structure RoundIs (w wr : World) (sb : Nat) (M : Nat) (S0 : PSt) (r0 : Int × List Int) (S : PSt) (r : Int × List Int) (g : Gh) : Prop where
  pl : Plays S0 r0 S r
  st : StIs wr (w.heap.size + 1) sb S g
  box : ∃ v, wr.heap[w.heap.size]? = some (.cells #[v] 27 (0, 0)) ∧ ScrIs wr w.heap.size v r.2
  fr : Fresh w wr
  inv : PInv M S
  can : 0 ≤ r.1 → canAt S r.1.toNat = true
theorem len_le_sum {l : List POp} : ∀ {l0 : List (List POp)}, l ∈ l0 → l.length ≤ (l0.map List.length).sum
  | [], h => by cases h
  | a :: l0, h => by
    simp only [List.map_cons, List.sum_cons]
    rcases List.mem_cons.1 h with rfl | q
    · omega
    · have := len_le_sum q
      omega
set_option maxRecDepth 100000 in
set_option maxHeartbeats 4000000 in
theorem play_walk (w : World) (A : Option Addr) (c0 : Nat) (l0 : List (List POp)) (hr : Kd.C (Kd.slice 23 k23) w A l0.length l0) (vs : Value) (scr : List Int) (hs : ScrIs w w.heap.size vs scr) (hM : 11 * (l0.map List.length).sum ≤ 16777216) :
    Calls Try.prog 16 #[.slice A l0.length c0, vs] w fun e w' => PlayPost w w' e l0 scr := by
  obtain ⟨io, ho0, hoz0, hoz1, hoz2⟩ := info_parts tinfoOp
  have HIO := Lib.hid (And.intro ho0 (And.intro hoz0 (And.intro hoz1 hoz2)))
  obtain ⟨ic, hc0', hcz0, hcz1, hcz2⟩ := info_parts tinfoPCl
  have HIC := Lib.hid (And.intro hc0' (And.intro hcz0 (And.intro hcz1 hcz2)))
  clear ho0 hoz0 hoz1 hoz2 hc0' hcz0 hcz1 hcz2
  have hlen : l0.length ≤ 9223372036854775807 := hr.2.1
  obtain ⟨Av, cv, rfl⟩ : ∃ Av cv, vs = .slice Av scr.length cv := by
    rcases hs with ⟨q, A, C, q2⟩ | ⟨ib, off, C, q, _⟩
    · exact ⟨A, C, by rw [q2, q]; rfl⟩
    · exact ⟨_, _, q⟩
  have HR := Lib.hid (And.intro hr (And.intro hs hM))
  clear hr hs hM
  obtain ⟨ns, hns⟩ : ∃ ns, ns = scr.length := ⟨_, rfl⟩
  rw [← hns] at HR ⊢
  clear hns
  by_cases hbig : 64 < l0.length
  · have hbI : (64 : Int) < (l0.length : Int) := by omega
    go_enter Try.func16, Try.ntmps16
    go_wp2_with fail
    go_ret
    refine ⟨.slice none 0 0, [], rfl, by unfold PlayEnd; rw [if_pos hbig], ⟨[], OwnRow.none_ _ _ _ _ _, rfl, fun j m r hm => by simp at hm⟩, alloc_only _ _⟩
  · have hbI : ¬ (64 : Int) < (l0.length : Int) := by omega
    have HT := Lib.hid (tnew (w.alloc (.cells #[.slice Av ns cv] 27)))
    go_enter Try.func16, Try.ntmps16
    go_wp2_with fail
    refine HT.out.mono ?_
    rintro e w1 ⟨tb, lab, rfl, htab, hf1, hlab⟩
    obtain ⟨g0, hst0⟩ := StIs.none (base := w.heap.size + 1) htab (fun b q => by have := hlab b q; simpa using this) (by have := hf1.size; simpa using this)
    have HM0 := Lib.hid (show MadeIs w (w1.alloc (.cells (stageC tb (fun _ => false) (.slice none 0 0) (.slice none 0 0)) 96)) w1.heap.size (.slice Av ns cv) l0 0 g0 from ⟨hst0, hf1.alloc _⟩)
    unfold stageC at HM0
    clear htab hf1 hlab hst0 HT
    obtain ⟨sb, hsb⟩ : ∃ sb, sb = w1.heap.size := ⟨_, rfl⟩
    go_wp2_with fail
    rw [← hsb] at HM0 ⊢
    clear hsb
    go_loopw [20] (fun s20 wr => ∃ (i : Nat) (g : Gh), i ≤ l0.length ∧ s20 = .int .i64 i ∧ MadeIs w wr sb (.slice Av ns cv) l0 i g) (fun s20 _ => l0.length - (intOf s20).toNat)
    case atStart => exact ⟨0, g0, Nat.zero_le _, rfl, HM0.out⟩
    case round =>
      obtain ⟨wo, rfl⟩ : ∃ wo : World, wo = wr := ⟨_, rfl⟩
      obtain ⟨i, g, hi, rfl, hm⟩ := hrel
      have HMM := Lib.hid hm
      clear hm
      by_cases hlt : i < l0.length
      · have hlD : decide ((i : Int) < (l0.length : Int)) = true := by simp; omega
        have hB : Below w.heap.size w wo := ((Only.refl w fun _ => False).alloc _ |>.trans' (HMM.out.fr.mono fun _ _ q => q)).below (Nat.le_refl _) fun _ q => q.elim
        obtain ⟨ad, A0, c1, hA, x0, hl0, hC⟩ := at_L3 (Kd.C_below HR.out.1 hB) i (by omega) (by omega)
        subst hA
        simp only [Int.toNat_natCast] at x0 hl0 hC
        obtain ⟨ops, hops⟩ : ∃ ops, ops = rd_L3 l0 (i : Nat) := ⟨_, rfl⟩
        rw [← hops] at x0 hl0 hC
        have hoe : ops = l0[i]'hlt := by rw [hops]; unfold rd_L3; simp [hlt]
        obtain ⟨m, hm⟩ : ∃ m, m = ops.length := ⟨_, rfl⟩
        rw [← hm] at x0 hl0
        have hm1 : m ≤ 9223372036854775807 := by rw [hm]; exact hC.2.1
        have HC := Lib.hid (And.intro hC (And.intro hoe hm))
        obtain ⟨cb, hcb⟩ : ∃ cb, cb = wo.heap.size := ⟨_, rfl⟩
        have hcw : cb ≤ wo.heap.size := by omega
        have hst := FillIs.start wo
        have hwb : w.heap.size + 1 ≤ cb := by
          have := HMM.out.fr.size
          simp at this
          omega
        have HST := Lib.hid hst
        have HCB := Lib.hid hcb
        clear hC hops hoe hm hst hB
        go_wp2_with fail
        rw [← hcb]
        clear hcb
        go_loopw [28] (fun s28 wr => ∃ (j : Nat) (vo : Value), j ≤ m ∧ s28 = .int .i64 j ∧ FillIs wo wr vo ((ops.take j).filter okB)) (fun s28 _ => m - (intOf s28).toNat)
        case atStart => exact ⟨0, _, Nat.zero_le _, rfl, HST.out⟩
        case round =>
          obtain ⟨j, vo, hj, rfl, hf⟩ := hrel
          have HF := Lib.hid hf
          clear hf
          by_cases hlt2 : j < m
          · have hjD : decide ((j : Int) < (m : Int)) = true := by simp; omega
            have hB2 : Below wo.heap.size wo wr := HF.out.fr.below (Nat.le_refl _) fun _ q => q.elim
            obtain ⟨ad2, hA2, y0, y1, y2⟩ := at_T23 (w := wr) (n := ops.length) (Kd.C_below HC.out.1 hB2) j (by omega) (by rw [← HC.out.2.2]; omega)
            subst hA2
            simp only [Int.toNat_natCast] at y0 y1 y2
            obtain ⟨o, ho⟩ : ∃ o, o = rd_T23 ops (j : Nat) := ⟨_, rfl⟩
            rw [← ho] at y0 y1 y2
            have hoe2 : (ops.take (j + 1)).filter okB = (ops.take j).filter okB ++ if okB o = true then [o] else [] := by
              have hjl : j < ops.length := by rw [← HC.out.2.2]; exact hlt2
              have : o = ops[j]'hjl := by rw [ho]; unfold rd_T23; simp [hjl]
              rw [List.take_succ_eq_append_getElem hjl, List.filter_append, ← this]
              congr 1
              by_cases q : okB o = true
              · simp [q]
              · simp [q]
            have HO := Lib.hid hoe2
            clear ho hB2 hoe2
            have hcase : (o.f0 < 1 ∨ (1 ≤ o.f0 ∧ 3 < o.f0)) ∨ (1 ≤ o.f0 ∧ o.f0 ≤ 3) := by omega
            rcases hcase with (hno | ⟨hno1, hno⟩) | ⟨hy1, hy2⟩
            · have hok : okB o = false := by unfold okB; simp; omega
              have HOK := Lib.hid hok
              clear hok
              go_wp2_with fail
              go_roundw
              case rel => exact ⟨j + 1, vo, by omega, by go_num, by rw [HO.out, HOK.out, if_neg (by simp), List.append_nil]; exact HF.out.fresh (alloc_only _ _)⟩
              case measure => simp [intOf]; omega
            · have hok : okB o = false := by unfold okB; simp; omega
              have HOK := Lib.hid hok
              clear hok
              go_wp2_with fail
              go_roundw
              case rel => exact ⟨j + 1, vo, by omega, by go_num, by rw [HO.out, HOK.out, if_neg (by simp), List.append_nil]; exact HF.out.fresh (alloc_only _ _)⟩
              case measure => simp [intOf]; omega
            · have hok : okB o = true := by unfold okB; simp; omega
              have HOK := Lib.hid hok
              clear hok
              go_upto_region 12 with fail
              refine nameW ?_
              intro V hV
              have hfV : FillIs wo V vo ((ops.take j).filter okB) := by rw [hV]; exact HF.out.fresh (alloc_only _ _)
              have hd : V.heap[wr.heap.size]? = some (.cells #[.int .i64 o.f0, .int .i64 o.f1, .string o.f2] 23 (0, 0)) := by rw [hV]; exact new_blk _
              have d0 : V.cell? ⟨wr.heap.size, 0, none⟩ = some (.int .i64 o.f0) := blk_cell hd rfl
              have d1 : V.cell? ⟨wr.heap.size, 1, none⟩ = some (.int .i64 o.f1) := blk_cell hd rfl
              have d2 : V.cell? ⟨wr.heap.size, 2, none⟩ = some (.string o.f2) := blk_cell hd rfl
              have hdl := blk_lt hd
              have hcl := hfV.cl
              rw [← HCB.out] at hcl
              have p0 : V.cell? ⟨cb, 0, none⟩ = some vo := blk_cell hcl rfl
              have hcbl := blk_lt hcl
              obtain ⟨inner, hown0, hreps⟩ := hfV.row
              generalize hfo : (ops.take j).filter okB = fo at *
              have hfl : fo.length ≤ 16777216 := by
                have h1 := List.length_filter_le okB (ops.take j)
                have h2 := List.length_take_le j ops
                have h3 := len_le_sum (l := ops) (l0 := l0) (by rw [HC.out.2.1]; exact List.getElem_mem hlt)
                have h4 := HR.out.2.2
                rw [hfo] at h1
                have h5 : (ops.take j).length ≤ ops.length := by simp; omega
                omega
              obtain ⟨A3, C3, hvo⟩ := own_slice hown0
              subst hvo
              have hne : ∀ b, (Value.slice A3 fo.length C3).ownBlock = some b → b ≠ cb := fun b q e => by
                obtain ⟨cells, q2⟩ := own_cells hown0 q
                rw [e, hcl] at q2
                injection q2 with q2
                injection q2 with _ q2 _
                exact absurd q2 (by decide)
              have HOW := Lib.hid hown0
              have HX := Lib.hid (And.intro hfV (And.intro hreps (And.intro hfo hV)))
              have HNE := Lib.hid (And.intro hne hcl)
              have hbV2 : wo.heap.size ≤ V.heap.size := hfV.fr.size
              clear hfV hd hcl hown0 hreps hfo hV hne y0 y1 y2
              go_region_law
                ((refine step_app _ (by rfl) _ _ _ (by rfl) wo.heap.size 23 io _ 3 32 Try.underlying41 HIO.out.1 HIO.out.2.1 HIO.out.2.2.1 HIO.out.2.2.2 rfl (by omega) (.slice A3 fo.length C3) fo.length inner (by rfl) ((HOW.out.alloc _).drew) V.heap.size 1 1 [.int .i64 o.f0, .int .i64 o.f1, .string o.f2] 23 (0, 0) (by rfl) (new_blk _) (by rfl) (by simp [Value.oneCell']) (by unfold maxLen; omega) (by omega) (by simp; omega) ?_; intro A' C' w3 hown hgrow hat; have hs3 := blk_grown (w := (V.alloc (.cells #[.int .i64 o.f0, .int .i64 o.f1, .string o.f2] 23)).drew) (blk_alloc HNE.out.2 _) hgrow (fun e => HNE.out.1 cb e.symm rfl); have j1 : w3.cell? ⟨cb, 0, none⟩ = some (.slice A3 fo.length C3) := blk_cell hs3 rfl; have j2 := blk_frozen hs3 0; have j3 := blk_lt hs3; have HW := Lib.hid (And.intro hown hgrow); clear hown hgrow hat hs3))
              all_goals (
                go_wp2_with fail
                go_roundw
                case rel =>
                  obtain ⟨hfV, hreps, hfo, hV⟩ := HX.out
                  obtain ⟨hown, hgrow⟩ := HW.out
                  have hg2 : V.grownBy w3 (Value.slice A3 fo.length C3).ownBlock := alloc_grown ⟨hgrow.os, hgrow.tape, hgrow.output, hgrow.size, hgrow.block⟩
                  have hadd := hfV.add (o := o) hreps (A := A') (C := C') (by
                    cases A3 with
                    | none => exact .inl rfl
                    | some a => exact .inr ⟨_, rfl, own_cells HOW.out rfl⟩) (fun g q => (HOW.out.lt g q).1) hown hg2
                  refine ⟨j + 1, .slice A' (fo.length + 1) C', by omega, by go_num, ?_⟩
                  have ho2 := HO.out
                  rw [HOK.out, if_pos rfl] at ho2
                  rw [ho2, HCB.out]
                  exact hadd
                case measure => simp [intOf]; omega)
          · obtain rfl : j = m := by omega
            have hstw := HMM.out.st.fresh HF.out.fr
            have hcl := HF.out.cl
            rw [← HCB.out] at hcl
            have hfo : (ops.take j).filter okB = ops.filter okB := by rw [HC.out.2.2, List.take_length]
            have hil : (initP (l0.take i)).cls.length = i := by rw [init_len, List.length_take]; omega
            have hrow := hstw.crow
            obtain ⟨Ac, Cc, hvc⟩ := own_slice hrow
            have s9 : wr.cell? ⟨sb, 9, none⟩ = some g.vc := blk_cell hstw.blk rfl
            have hsbl := blk_lt hstw.blk
            rw [hil] at hvc hrow
            rw [hvc] at s9 hrow
            generalize hold : ((List.range i).map fun i => Value.pointer (some ⟨g.cb i, 0, none⟩)) = old at hrow
            have hne : ∀ b, (Value.slice Ac i Cc).ownBlock = some b → b ≠ sb := fun b q e => by
              obtain ⟨cells, q2⟩ := own_cells hrow q
              rw [e, hstw.blk] at q2
              injection q2 with q2
              injection q2 with _ q2 _
              exact absurd q2 (by decide)
            have hwr : w.heap.size + 1 ≤ wr.heap.size := by
              have := HF.out.fr.size
              omega
            have HY := Lib.hid (And.intro hstw (And.intro hcl (And.intro hfo (And.intro hil (And.intro hrow (And.intro hvc (And.intro hold hne)))))))
            clear hstw hcl hfo hil hrow hvc hold hne
            go_wp2_with (at_builtin; (refine wpl_app _ rfl _ _ 94 rfl (w.heap.size + 1) 97 ic (.pointer none) 1 8 Try.underlying94 HIC.out.1 HIC.out.2.1 HIC.out.2.2.1 HIC.out.2.2.2 rfl (by decide) (.slice Ac i Cc) i old rfl (row_fresh HY.out.2.2.2.2.1 (alloc_only _ _)) wr.heap.size 1 1 [.pointer (some ⟨cb, 0, none⟩)] 97 (0, 0) rfl (new_blk _) rfl (by simp [Value.oneCell']) (by unfold maxLen; omega) (by omega) (by simp; omega) ?_); intro A4 C4 w4 hown hgrow hat; have hs4 := blk_grown (w := wr.alloc (.cells #[.pointer (some ⟨cb, 0, none⟩)] 97)) (blk_alloc HY.out.1.blk _) hgrow (fun e => HY.out.2.2.2.2.2.2.2 sb e.symm rfl); have j1 : w4.cell? ⟨sb, 9, none⟩ = some g.vc := blk_cell hs4 rfl; have j2 := blk_frozen hs4 9; have j3 := blk_lt hs4; have HW := Lib.hid (And.intro hown hgrow); clear hown hgrow hat hs4)
            go_roundw
            case rel =>
              obtain ⟨hstw, hcl, hfo, hil, hrow, hvc, hold, hne⟩ := HY.out
              obtain ⟨hown, hgrow⟩ := HW.out
              have hfil := HF.out.fresh (alloc_only wr (.cells #[.pointer (some ⟨cb, 0, none⟩)] 97))
              rw [hfo] at hfil
              have hg2 : (wr.alloc (.cells #[.pointer (some ⟨cb, 0, none⟩)] 97)).grownBy w4 g.vc.ownBlock := by rw [hvc]; exact hgrow
              obtain ⟨g', hm⟩ := (hstw.fresh (alloc_only wr (.cells #[.pointer (some ⟨cb, 0, none⟩)] 97))).more (cbn := cb) (by have q := hfil.cl; rw [← HCB.out] at q; exact q) hfil.row.at (fun k hk => by
                rw [HCB.out]
                have := blk_lt (HMM.out.st.cl k _ (List.getElem?_eq_getElem hk)).blk
                omega) hwb (by rw [hil]; omega) (A := A4) (C := C4) (old := old) (by rw [hil]; exact hold.symm) (by rw [hil]; exact hown) hg2
              refine ⟨i + 1, g', by omega, by go_num, ?_, ?_⟩
              · rw [init_take l0 hlt, ← HC.out.2.1]
                rw [hil] at hm
                exact hm
              · refine (((HMM.out.fr.trans' HF.out.fr).alloc _).grown hg2 fun b q => .inr ?_).setCell (p := ⟨sb, 9, none⟩) (.inr ?_) _
                · have := (hstw.crow.lt b q).1
                  simpa using this
                · have := hstw.outS
                  simpa using this
            case measure => simp [intOf]; omega
      · obtain rfl : i = l0.length := by omega
        have hst := HMM.out.st
        rw [List.take_length] at hst
        have hfw : Fresh w wo := (alloc_only w _).trans' HMM.out.fr
        have hscr := HR.out.2.1.keep (base' := w.heap.size) (Nat.le_refl _) (hfw.mono fun _ _ q => q.elim) (Nat.le_refl _)
        have hpk := pick_walk hst _ scr (-1) HMM.out.box hscr (Nat.le_refl _)
        have HPK := Lib.hid hpk
        have HF0 := Lib.hid (And.intro hst hfw)
        clear hst hfw hscr hpk
        go_wp2_with fail
        refine HPK.out.mono ?_
        rintro e w2 ⟨rfl, ⟨v2, hv2, hs2⟩, ho2⟩
        have hR0 : RoundIs w w2 sb (mu (initP l0)) (initP l0) (pickP (initP l0) scr (-1)) (initP l0) (pickP (initP l0) scr (-1)) g :=
          ⟨.refl _ _, HF0.out.1.other HMM.out.box ho2, ⟨v2, hv2, hs2⟩, HF0.out.2.trans ho2 fun b q => .inr (by rw [q]; exact Nat.le_refl _), init_inv l0, pick_can⟩
        have HR0 := Lib.hid hR0
        clear hR0 hv2 hs2 ho2
        go_wp2_with fail
        go_loopg [11] (mu (initP l0)) (fun cnt s11 wr => ∃ (S : PSt) (r : Int × List Int) (g : Gh), cnt = mu S ∧ s11 = .int .i64 r.1 ∧ RoundIs w wr sb (mu (initP l0)) (initP l0) (pickP (initP l0) scr (-1)) S r g)
        case atStart => exact ⟨_, _, g, rfl, rfl, HR0.out⟩
        case round =>
          obtain ⟨S, r, g2, hcnt, rfl, hrd⟩ := hrel
          have HRD := Lib.hid hrd
          have HCN := Lib.hid hcnt
          clear hrd hcnt
          obtain ⟨x, hx⟩ : ∃ x, x = r.1 := ⟨_, rfl⟩
          rw [← hx]
          by_cases hneg : 0 ≤ x
          · have hMM : mu (initP l0) ≤ 16777216 := Nat.le_trans (mu_init l0) HR.out.2.2
            obtain ⟨n, hn⟩ : ∃ n : Nat, x = (n : Int) := ⟨x.toNat, by omega⟩
            have hcan := HRD.out.can (by rw [← hx]; exact hneg)
            rw [← hx, hn, Int.toNat_natCast] at hcan
            obtain ⟨c, o, rest, hc, hops, hok, hnx⟩ := next_valid HRD.out.inv hcan
            have hi1 := HRD.out.inv.hist
            have hi2 := HRD.out.inv.keys
            have hstep := step_walk HRD.out.st hc hops hok (by omega) (by omega)
            rw [← hnx, ← hn] at hstep
            obtain ⟨hI, hmu, hcl⟩ := HRD.out.inv.step hc hops
            rw [← hnx] at hI hmu hcl
            have HST := Lib.hid hstep
            have HI := Lib.hid (And.intro hI (And.intro hmu (And.intro hn hx)))
            clear hstep hI hmu hcl hcan hc hops hok hnx hi1 hi2 hn hx hMM
            go_wp2_with fail
            refine HST.out.mono ?_
            rintro e w3 ⟨rfl, g3, q1, q2, q3⟩
            obtain ⟨v, hv, hs⟩ := HRD.out.box
            have hv3 := q3.blk hv (by omega)
            have hs3 := hs.keep (base' := w.heap.size + 1) HRD.out.fr.size q3 (by omega)
            have HPK := Lib.hid (pick_walk q1 v r.2 x hv3 hs3 (Nat.le_refl _))
            have HQ := Lib.hid (And.intro q1 (And.intro q3 hv3))
            clear q1 q2 q3 hv hs hv3 hs3
            go_wp2_with fail
            refine HPK.out.mono ?_
            rintro e w4 ⟨rfl, ⟨v4, hv4, hs4⟩, ho4⟩
            have hR4 : RoundIs w w4 sb (mu (initP l0)) (initP l0) (pickP (initP l0) scr (-1)) (nextP S n) (pickP (nextP S n) r.2 x) g3 := by
              obtain ⟨hI, hmu, hn, hx⟩ := HI.out
              have hpl := HRD.out.pl.step (by rw [← hx]; exact hneg)
              rw [← hx, hn, Int.toNat_natCast, ← hn] at hpl
              exact ⟨hpl, HQ.out.1.other HQ.out.2.2 ho4, ⟨v4, hv4, hs4⟩, (HRD.out.fr.trans HQ.out.2.1 fun b q => .inr (by omega)).trans ho4 fun b q => .inr (by rw [q]; exact Nat.le_refl _), hI, pick_can⟩
            have HR4 := Lib.hid hR4
            clear hR4 hv4 hs4 ho4
            go_wp2_with fail
            go_roundg (mu (nextP S n))
            case measure => rw [HCN.out]; exact HI.out.2.1
            case rel => exact ⟨_, _, g3, rfl, rfl, HR4.out⟩
          · have s10 : wr.cell? ⟨sb, 10, none⟩ = some g2.vh := blk_cell HRD.out.st.blk rfl
            have HX := Lib.hid hx
            have hsbl := blk_lt HRD.out.st.blk
            clear hx
            go_wp2_with fail
            go_ret
            have hst := HRD.out.st
            exact ⟨g2.vh, S.hist, rfl, by unfold PlayEnd; rw [if_neg hbig]; exact ⟨S, r, HRD.out.pl, by rw [← HX.out]; omega, rfl⟩, HistIs.lower ⟨g2.rows, hst.hrow, hst.hlen, hst.hmem⟩ (by omega), HRD.out.fr⟩
end Go.Proofs.Ytihjpbalkjhjbaa
namespace Go.Proofs.Ytihjpbalkjhjbaa
open Go.RowKit Go.MapKept Go.MuLone Go.Shelf Go.Proofs.YtihjpbalkjhjbaaW.PrintWords
theorem Plays.trans {S0 S1 S2 : PSt} {r0 r1 r2 : Int × List Int} (h : Plays S0 r0 S1 r1) (k : Plays S1 r1 S2 r2) : Plays S0 r0 S2 r2 := by
  induction k with
  | refl => exact h
  | step _ hn ih => exact ih.step hn
theorem Plays.head {S0 S : PSt} {r0 r : Int × List Int} (h : Plays S0 r0 S r) : (S = S0 ∧ r = r0) ∨ (0 ≤ r0.1 ∧ Plays (nextP S0 r0.1.toNat) (pickP (nextP S0 r0.1.toNat) r0.2 r0.1) S r) := by
  induction h with
  | refl => exact .inl ⟨rfl, rfl⟩
  | step h hn ih =>
    rcases ih with ⟨rfl, rfl⟩ | ⟨q, k⟩
    · exact .inr ⟨hn, .refl _ _⟩
    · exact .inr ⟨q, k.step hn⟩
theorem Plays.rest {S0 S S' : PSt} {r0 r r' : Int × List Int} (h : Plays S0 r0 S r) : Plays S0 r0 S' r' → r'.1 < 0 → Plays S r S' r' := by
  induction h with
  | refl => exact fun k _ => k
  | step h hn ih =>
    intro k hr
    rcases (ih k hr).head with ⟨rfl, rfl⟩ | ⟨_, q⟩
    · omega
    · exact q
theorem Plays.one {S0 S S' : PSt} {r0 r r' : Int × List Int} (h : Plays S0 r0 S r) (hr : r.1 < 0) (k : Plays S0 r0 S' r') (hr' : r'.1 < 0) : S = S' := by
  rcases (h.rest k hr').head with ⟨q, _⟩ | ⟨q, _⟩
  · exact q.symm
  · omega
theorem PlayEnd.one {l0 : List (List POp)} {scr : List Int} {H H' : List PMo} (h : PlayEnd l0 scr H) (k : PlayEnd l0 scr H') : H = H' := by
  unfold PlayEnd at h k
  by_cases hl : 64 < l0.length
  · rw [if_pos hl] at h k
    rw [h, k]
  · rw [if_neg hl] at h k
    obtain ⟨S, r, h1, h2, h3⟩ := h
    obtain ⟨S', r', k1, k2, k3⟩ := k
    rw [h3, k3, h1.one h2 k1 k2]
/-- the play, by a number of rounds -/
def runP : Nat → PSt → Int × List Int → PSt × (Int × List Int)
  | 0, S, r => (S, r)
  | n + 1, S, r => if r.1 < 0 then (S, r) else runP n (nextP S r.1.toNat) (pickP (nextP S r.1.toNat) r.2 r.1)
theorem runP_plays : ∀ (n : Nat) (S : PSt) (r : Int × List Int), Plays S r (runP n S r).1 (runP n S r).2
  | 0, S, r => .refl S r
  | n + 1, S, r => by
    unfold runP
    by_cases h : r.1 < 0
    · rw [if_pos h]
      exact .refl S r
    · rw [if_neg h]
      exact ((Plays.refl S r).step (by omega)).trans (runP_plays n _ _)
theorem PlayEnd.run {l0 : List (List POp)} {scr : List Int} {H : List PMo} (h : PlayEnd l0 scr H) (n : Nat) (hl : ¬ 64 < l0.length) (hr : (runP n (initP l0) (pickP (initP l0) scr (-1))).2.1 < 0) : H = (runP n (initP l0) (pickP (initP l0) scr (-1))).1.hist :=
  h.one (by
    unfold PlayEnd
    rw [if_neg hl]
    exact ⟨_, _, runP_plays n _ _, hr, rfl⟩)
/-- the play of the one call -/
def liveO : POp := ⟨1, 1, ⟨#[120]⟩⟩
theorem live_end {H : List PMo} (h : PlayEnd [[liveO]] [] H) : H = [⟨0, true, liveO, zRep⟩, ⟨0, false, liveO, ⟨true, ⟨#[]⟩, [], []⟩⟩] := by
  have e1 : (runP 4 (initP [[liveO]]) (pickP (initP [[liveO]]) [] (-1))).2.1 = -1 := by kernel_rfl
  have e2 : (runP 4 (initP [[liveO]]) (pickP (initP [[liveO]]) [] (-1))).1.hist = [⟨0, true, liveO, zRep⟩, ⟨0, false, liveO, ⟨true, ⟨#[]⟩, [], []⟩⟩] := by kernel_rfl
  exact (h.run 4 (by decide) (by rw [e1]; decide)).trans e2
end Go.Proofs.Ytihjpbalkjhjbaa
namespace Go.Proofs.Ytihjpbalkjhjbaa
open Go.RowKit Go.MapKept Go.MuLone Go.Shelf Go.Proofs.YtihjpbalkjhjbaaW.PrintWords Go.Proofs.Ytihjpbalkjhjbaa.PTableEnds
theorem reps_map {α : Type} (f : α → Value) (l : List α) : Reps (fun (x : α) cs => cs = [f x]) 1 l (l.map f) := by
  refine ⟨by simp, fun j p hp => ?_⟩
  have hj := (List.getElem?_eq_some_iff.1 hp).1
  refine List.ext_getElem? fun k => ?_
  rw [List.getElem?_take, Nat.mul_one]
  by_cases hk : k < 1
  · obtain rfl : k = 0 := by omega
    rw [if_pos (by omega), List.getElem?_drop, Nat.add_zero, List.getElem?_map, hp]
    rfl
  · rw [if_neg hk, List.getElem?_eq_none (by simp; omega)]
theorem IR.reads {w : World} {base : Nat} {v : Value} {l : List Int} (h : IR w base v l) : ∃ A C, v = .slice A l.length C ∧ l.length ≤ C ∧ (Kd.int .i64).C w A l.length l :=
  OwnRow.reads (R := fun (x : Int) cs => cs = [Value.int .i64 x]) ⟨_, h, reps_map _ l⟩
theorem SR.reads {w : World} {base : Nat} {v : Value} {l : List ByteArray} (h : SR w base v l) : ∃ A C, v = .slice A l.length C ∧ l.length ≤ C ∧ Kd.string.C w A l.length l :=
  OwnRow.reads (R := fun (x : ByteArray) cs => cs = [Value.string x]) ⟨_, h, reps_map _ l⟩
theorem HistIs.row {w : World} {base : Nat} {v : Value} {H : List PMo} (h : HistIs w base v H) : OwnRow (fun m cs => MoIs w base m cs) 52 9 w base v H := by
  obtain ⟨rows, ⟨inner, ho, hr⟩, hl, hm⟩ := h
  refine ⟨inner, by rw [← hl]; exact ho, by rw [← hl]; exact hr.1, fun j m hj => ?_⟩
  have hjl : j < rows.length := by rw [hl]; exact (List.getElem?_eq_some_iff.1 hj).1
  have := hr.2 j _ (List.getElem?_eq_getElem hjl)
  rw [this]
  exact hm j m _ hj (List.getElem?_eq_getElem hjl)
theorem MoIs.reads {w : World} {base : Nat} {m : PMo} {r : List Value} (h : MoIs w base m r) : k52.K w m r := by
  obtain ⟨v7, v8, rfl, h7, h8⟩ := h
  obtain ⟨A7, c7, rfl, l7, g7⟩ := h7.reads
  obtain ⟨A8, c8, rfl, l8, g8⟩ := h8.reads
  exact k52_mk w m l7 g7 l8 g8
theorem HistIs.reads {w : World} {base : Nat} {v : Value} {H : List PMo} (h : HistIs w base v H) : ∃ A C, v = .slice A H.length C ∧ H.length ≤ C ∧ k52.C w A H.length H :=
  OwnRow.reads (h.row.imp_ fun _ _ q => q.reads)
/-- a row of calls in one block -/
theorem ops_lit {w : World} {b : Nat} {ops : List POp} {cells : Array Value} (hb : w.heap[b]? = some (.cells cells 23 (0, 0))) (hl : ops.length ≤ 9223372036854775807)
    (h : ∀ j o, ops[j]? = some o → cells[j * 3]? = some (.int .i64 o.f0) ∧ cells[j * 3 + 1]? = some (.int .i64 o.f1) ∧ cells[j * 3 + 2]? = some (.string o.f2)) : k23.C w (some ⟨b, 0, none⟩) ops.length ops := by
  refine ⟨rfl, hl, fun _ => ⟨⟨b, 0, none⟩, rfl, fun j o hj => ⟨opV o, rfl, k23_mk w o, fun i u hu => ?_⟩⟩⟩
  obtain ⟨h0, h1, h2⟩ := h j o hj
  have e : (⟨b, 0, none⟩ : Addr).add (j * 3 + i) = ⟨b, j * 3 + i, none⟩ := by rw [Addr.add_lit, Nat.zero_add]
  show w.cell? ((⟨b, 0, none⟩ : Addr).add (j * 3 + i)) = some u
  rw [e]
  refine blk_cell hb ?_
  rcases i with _ | _ | _ | i
  · simp only [opV, List.getElem?_cons_zero, Option.some.injEq] at hu
    rw [← hu]; exact h0
  · simp only [opV, List.getElem?_cons_succ, List.getElem?_cons_zero, Option.some.injEq] at hu
    rw [← hu]; exact h1
  · simp only [opV, List.getElem?_cons_succ, List.getElem?_cons_zero, Option.some.injEq] at hu
    rw [← hu]; exact h2
  · simp [opV] at hu
/-- a row of one row of calls -/
theorem rows_lit {w : World} {b b1 n C : Nat} {ops : List POp} (hb : w.heap[b]? = some (.cells #[.slice (some ⟨b1, 0, none⟩) n C] 41 (0, 0))) (hn : n = ops.length) (hC : ops.length ≤ C) (h : k23.C w (some ⟨b1, 0, none⟩) ops.length ops) :
    Kd.C (Kd.slice 23 k23) w (some ⟨b, 0, none⟩) 1 [ops] := by
  refine ⟨rfl, by omega, fun _ => ⟨⟨b, 0, none⟩, rfl, fun j o hj => ?_⟩⟩
  have hj0 : j = 0 := by
    have := (List.getElem?_eq_some_iff.1 hj).1
    simp at this
    omega
  subst hj0
  have ho : ops = o := by simpa using hj
  subst ho
  refine ⟨[.slice (some ⟨b1, 0, none⟩) ops.length C], rfl, ⟨_, _, rfl, hC, h⟩, fun i u hu => ?_⟩
  have hi0 : i = 0 := by
    have := (List.getElem?_eq_some_iff.1 hu).1
    simp at this
    omega
  subst hi0
  have hu' : Value.slice (some ⟨b1, 0, none⟩) ops.length C = u := by simpa using hu
  subst hu'
  have e : (⟨b, 0, none⟩ : Addr).add (0 * 1 + 0) = ⟨b, 0, none⟩ := rfl
  show w.cell? ((⟨b, 0, none⟩ : Addr).add (0 * 1 + 0)) = _
  rw [e]
  exact blk_cell hb (by simp [hn])
set_option maxRecDepth 100000 in
set_option maxHeartbeats 2000000 in
theorem lives_walk (w : World) : Calls Try.prog 13 #[] w fun e w' => e = .returned (.bool true) ∧ Fresh w w' := by
  go_enter Try.func13, Try.ntmps13
  go_wp2_with fail
  refine (tnew _).mono ?_
  rintro e w1 ⟨ta, la, rfl, Ta, Fa, Na⟩
  have H1 := Lib.hid (And.intro Ta (And.intro Fa Na))
  clear Ta Fa Na
  go_wp2_with fail
  refine (tpublish_new H1.out.1 5 _ rfl).mono ?_
  rintro e w2 ⟨rfl, la2, T2, X2⟩
  have H2 := Lib.hid (And.intro T2 (And.intro (H1.out.2.1.trans X2.only fun b q => .inr (H1.out.2.2 b q)) fun b (q : la2 b ≠ none) => show w.heap.size ≤ b from by
    have := H1.out.2.1.size
    rcases X2.new b q with q | q
    · exact H1.out.2.2 b q
    · omega))
  clear T2 X2
  go_wp2_with fail
  refine (tpublish_old H2.out.1 5 _ _ (if_pos rfl)).mono ?_
  rintro e w3 ⟨rfl, T3, X3⟩
  have H3 := Lib.hid (And.intro T3 (H2.out.2.1.trans X3.only fun b q => .inr (H2.out.2.2 b q)))
  clear T3 X3
  go_wp2_with fail
  refine (tlookup_some H3.out.1 5 _ (if_pos rfl)).mono ?_
  rintro e w4 ⟨rfl, T4, X4⟩
  have H4 := Lib.hid (H3.out.2.trans X4.only fun b q => .inr (H2.out.2.2 b q))
  clear T4 X4
  go_wp2_with fail
  have hp := play_walk ((w4.alloc (.cells #[.int .i64 1, .int .i64 1, .string ⟨#[120]⟩] 23)).alloc (.cells #[.slice (some ⟨w4.heap.size, 0, none⟩) 1 1] 41)) (some ⟨w4.heap.size + 1, 0, none⟩) 1 [[liveO]]
    (rows_lit (b := w4.heap.size + 1) (b1 := w4.heap.size) (n := 1) (C := 1) (by
      have := new_blk (w := w4.alloc (.cells #[.int .i64 1, .int .i64 1, .string ⟨#[120]⟩] 23)) (.cells #[.slice (some ⟨w4.heap.size, 0, none⟩) 1 1] 41)
      simpa using this) rfl (Nat.le_refl _) (ops_lit (cells := #[.int .i64 1, .int .i64 1, .string ⟨#[120]⟩]) (blk_alloc (new_blk _) _) (by decide) (fun j o hj => by
        have hj0 : j = 0 := by
          have := (List.getElem?_eq_some_iff.1 hj).1
          simp at this
          omega
        subst hj0
        have : liveO = o := by simpa using hj
        subst this
        exact ⟨rfl, rfl, rfl⟩)))
    (.slice none 0 0) [] (.inl ⟨rfl, _, _, rfl⟩) (by decide)
  refine hp.mono ?_
  clear hp
  rintro e w5 ⟨v, H, rfl, hend, hhist, hf⟩
  obtain rfl := live_end hend
  obtain ⟨A, C, rfl, hlC, hC⟩ := hhist.reads
  obtain ⟨ad, A7, c7, A8, c8, hA, x0, x1, x2, x3, x4, x5, x6, x7, x8, _, _, _, _⟩ := at_T52 hC 0 (by decide) (by decide)
  obtain ⟨ad', A7', c7', A8', c8', hA', y0, y1, y2, y3, y4, y5, y6, y7, y8, _, _, _, _⟩ := at_T52 hC 1 (by decide) (by decide)
  subst hA
  injection hA' with hA'
  subst hA'
  have HF := Lib.hid (((H4.out.alloc _).alloc _).trans' hf)
  have x1' : w5.cell? ⟨ad.block, ad.off + 1, none⟩ = some (.bool true) := x1
  have y5' : w5.cell? ⟨(ad.add 9).block, (ad.add 9).off + 5, none⟩ = some (.bool true) := y5
  have y5a : w5.cell? ⟨ad.block, ad.off + 9 + 5, none⟩ = some (.bool true) := y5
  have y5b : w5.cell? ⟨ad.block, ad.off + 14, none⟩ = some (.bool true) := y5
  clear hend hhist hf hC x0 x1 x2 x3 x4 x5 x6 x7 x8 y0 y1 y2 y3 y4 y5 y6 y7 y8
  go_wp2_with fail
  go_ret
  exact ⟨rfl, HF.out⟩
end Go.Proofs.Ytihjpbalkjhjbaa
namespace Go.Proofs.Ytihjpbalkjhjbaa
open Go.RowKit Go.MapKept Go.MuLone Go.Shelf Go.Proofs.YtihjpbalkjhjbaaW.PrintWords Go.Proofs.YtihjpbalkjhjbaaW.PrintLast Go.Proofs.YtihjpbalkjhjbaaW.PrintMore Go.Proofs.Ytihjpbalkjhjbaa.PTableEnds
abbrev PCall := S57
abbrev mo (H : List PMo) (i : Nat) : PMo := rd_T52 H (i : Nat)
/-- each beginning has its end at nx, the next of its client -/
structure Good (H : List PMo) (nx : Nat → Nat) : Prop where
  lt : ∀ i, i < H.length → (mo H i).f1 = true → i < nx i ∧ nx i < H.length
  cl : ∀ i, i < H.length → (mo H i).f1 = true → (mo H (nx i)).f0 = (mo H i).f0
  en : ∀ i, i < H.length → (mo H i).f1 = true → (mo H (nx i)).f1 = false
  op : ∀ i, i < H.length → (mo H i).f1 = true → (mo H (nx i)).f2 = (mo H i).f2
  no : ∀ i, i < H.length → (mo H i).f1 = true → ∀ k, i < k → k < nx i → (mo H k).f0 ≠ (mo H i).f0
def callL (H : List PMo) (nx : Nat → Nat) : Nat → List PCall
  | 0 => []
  | i + 1 => callL H nx i ++ if (mo H i).f1 = true then [⟨(i : Int), (nx i : Nat), (mo H i).f2, (mo H (nx i)).f3⟩] else []
def endC (H : List PMo) : Nat → Nat
  | 0 => 0
  | i + 1 => endC H i + if (mo H i).f1 = true then 0 else 1
theorem callL_len (H : List PMo) (nx : Nat → Nat) : ∀ i, (callL H nx i).length + endC H i = i
  | 0 => rfl
  | i + 1 => by
    have := callL_len H nx i
    unfold callL endC
    split <;> simp <;> omega
/-- the call whose end is sought, from place k on -/
def CAt (w wr : World) (b : Nat) (H : List PMo) (i n k : Nat) : Prop :=
  ∃ (tt : Int) (r : PRep) (A7 : Option Addr) (c7 : Nat) (A8 : Option Addr) (c8 : Nat), wr.heap[b]? = some (.cells #[.int .i64 i, .int .i64 tt, .int .i64 (mo H i).f2.f0, .int .i64 (mo H i).f2.f1, .string (mo H i).f2.f2, .bool r.f0, .string r.f1, .slice A7 r.f2.length c7, .slice A8 r.f3.length c8] 57 (0, 0)) ∧
    (r.f2.length ≤ c7 ∧ (Kd.int .i64).C w A7 r.f2.length r.f2 ∧ r.f3.length ≤ c8 ∧ Kd.string.C w A8 r.f3.length r.f3) ∧
    ((tt = -1 ∧ r = zRep ∧ k ≤ n) ∨ (tt = n ∧ r = (mo H n).f3))
theorem below_set {g : Nat} {w w1 : World} (h : Below w.heap.size w w1) (hg : w.heap.size ≤ g) (j : Nat) (u : Value) : Below w.heap.size w (w1.setCell ⟨g, j, none⟩ u) :=
  h.trans ((Only.setCell (S := fun b => b = g) (Only.refl _ _) (p := ⟨g, j, none⟩) (.inl rfl) u).below (below_size h) (fun b e => by subst e; exact hg))
/-! #### long -/
/-! #### what is asked -/
/-- of a client: the calls that stand from place j on -/
def restC (H : List PMo) (cs : List PCall) (n : Nat) (j : Nat) : List POp := ((cs.drop j).filter fun (c : PCall) => decide ((rd_T52 H c.f0).f0 = (n : Int))).map (·.f2)
structure EndsOk (l0 : List (List POp)) (H : List PMo) (nx : Nat → Nat) : Prop where
  good : Good H nx
  cnt : endC H H.length = (callL H nx H.length).length
  cl : ∀ (j : Nat) (c : PCall), (callL H nx H.length)[j]? = some c → ∃ p n : Nat, c.f0 = p ∧ p < H.length ∧ n < l0.length ∧ (mo H p).f0 = n
  rest : ∀ n, n < l0.length → restC H (callL H nx H.length) n 0 = (rd_L3 l0 (n : Nat)).filter okB
  len : H.length ≤ 16777216
/-- where each client stands -/
def AtPos (l0 : List (List POp)) (H : List PMo) (cs : List PCall) (j : Nat) (a : Nat → Nat) : Prop := ∀ n, n < l0.length → a n ≤ (rd_L3 l0 (n : Nat)).length ∧ ((rd_L3 l0 (n : Nat)).drop (a n)).filter okB = restC H cs n j
theorem restC_here {H : List PMo} {cs : List PCall} {n j : Nat} {c : PCall} (hc : cs[j]? = some c) (hn : (rd_T52 H c.f0).f0 = (n : Int)) : restC H cs n j = c.f2 :: restC H cs n (j + 1) := by
  unfold restC
  obtain ⟨hj, rfl⟩ := List.getElem?_eq_some_iff.1 hc
  rw [List.drop_eq_getElem_cons hj, List.filter_cons, if_pos (by simp [hn])]
  rfl
theorem restC_other {H : List PMo} {cs : List PCall} {n j : Nat} {c : PCall} (hc : cs[j]? = some c) (hn : (rd_T52 H c.f0).f0 ≠ (n : Int)) : restC H cs n j = restC H cs n (j + 1) := by
  unfold restC
  obtain ⟨hj, rfl⟩ := List.getElem?_eq_some_iff.1 hc
  rw [List.drop_eq_getElem_cons hj, List.filter_cons, if_neg (by simp [hn])]
def rowA (k : Nat) (a : Nat → Nat) : List Value := (List.range k).map fun n => .int .i64 ((a n : Nat) : Int)
theorem rowA_get {k n : Nat} {a : Nat → Nat} (h : n < k) : (rowA k a)[n]? = some (.int .i64 ((a n : Nat) : Int)) := by simp [rowA, h]
theorem rowA_set {k n : Nat} {a : Nat → Nat} (x : Nat) : (rowA k a).set n (.int .i64 ((x : Nat) : Int)) = rowA k fun i => if i = n then x else a i := by
  refine List.ext_getElem? fun i => ?_
  rw [List.getElem?_set]
  unfold rowA
  by_cases hi : i < k
  · by_cases e : n = i
    · subst e; simp [hi]
    · rw [if_neg e]; simp [hi, Ne.symm e]
  · rw [List.getElem?_eq_none (l := (List.range k).map _) (i := i) (by simp; omega)]
    by_cases e : n = i
    · subst e; simp [hi]
    · rw [if_neg e, List.getElem?_eq_none (by simp; omega)]
/-- one call more is told -/
theorem AtPos.step {l0 : List (List POp)} {H : List PMo} {cs : List PCall} {j : Nat} {a : Nat → Nat} (h : AtPos l0 H cs j a) {c : PCall} (hc : cs[j]? = some c) {n : Nat} (hn : (rd_T52 H c.f0).f0 = (n : Int)) {x : Nat} (hx : x < (rd_L3 l0 (n : Nat)).length) (hd : ((rd_L3 l0 (n : Nat)).drop x).filter okB = c.f2 :: ((rd_L3 l0 (n : Nat)).drop (x + 1)).filter okB) (he : ((rd_L3 l0 (n : Nat)).drop x).filter okB = restC H cs n j) :
    AtPos l0 H cs (j + 1) fun i => if i = n then x + 1 else a i := by
  intro i hi
  by_cases e : i = n
  · subst e
    simp only [if_true]
    refine ⟨hx, ?_⟩
    rw [hd, restC_here hc hn] at he
    injection he
  · simp only [if_neg e]
    obtain ⟨h1, h2⟩ := h i hi
    exact ⟨h1, by rw [h2, restC_other hc (by rw [hn]; exact fun q => e (Int.ofNat_inj.1 q).symm)]⟩
end Go.Proofs.Ytihjpbalkjhjbaa
namespace Go.Proofs.Ytihjpbalkjhjbaa
open Go.RowKit Go.MapKept Go.MuLone Go.Shelf Go.Proofs.YtihjpbalkjhjbaaW.PrintWords Go.Proofs.Ytihjpbalkjhjbaa.PTableEnds
/-- a client's moments -/
def proj (n : Nat) (H : List PMo) : List PMo := H.filter fun (m : PMo) => decide (m.f0 = (n : Int))
/-- calls that are over -/
def pairs (n : Nat) : List (POp × PRep) → List PMo
  | [] => []
  | x :: d => ⟨(n : Nat), true, x.1, zRep⟩ :: ⟨(n : Nat), false, x.1, x.2⟩ :: pairs n d
theorem pairs_snoc (n : Nat) (x : POp × PRep) : ∀ d, pairs n (d ++ [x]) = pairs n d ++ [⟨(n : Nat), true, x.1, zRep⟩, ⟨(n : Nat), false, x.1, x.2⟩]
  | [] => rfl
  | y :: d => by
    show _ :: _ :: pairs n (d ++ [x]) = _ :: _ :: (pairs n d ++ _)
    rw [pairs_snoc n x d]
theorem proj_snoc (n : Nat) (H : List PMo) (m : PMo) : proj n (H ++ [m]) = proj n H ++ if m.f0 = (n : Int) then [m] else [] := by
  unfold proj
  rw [List.filter_append]
  by_cases e : m.f0 = (n : Int)
  · simp [e]
  · simp [e]
def opened (n : Nat) (c : PCl) : List PMo := if c.begun = true then (match c.ops with | o :: _ => [⟨(n : Nat), true, o, zRep⟩] | [] => []) else []
def cb (H : List PMo) : Nat := (H.filter fun (m : PMo) => m.f1).length
def ce (H : List PMo) : Nat := (H.filter fun (m : PMo) => !m.f1).length
def bg (c : PCl) : Nat := if c.begun = true then 1 else 0
structure HInv (l0 : List (List POp)) (S : PSt) : Prop where
  len : S.cls.length = l0.length
  rng : ∀ m ∈ S.hist, ∃ n : Nat, n < l0.length ∧ m.f0 = (n : Int)
  cl : ∀ (n : Nat) (c : PCl), S.cls[n]? = some c → ∃ d : List (POp × PRep), proj n S.hist = pairs n d ++ opened n c ∧ (rd_L3 l0 (n : Nat)).filter okB = d.map (·.1) ++ c.ops
  opn : ∀ (n : Nat) (c : PCl), S.cls[n]? = some c → c.begun = true → c.ops ≠ []
  bal : cb S.hist = ce S.hist + (S.cls.map bg).sum
theorem HInv.turn {l0 : List (List POp)} {S : PSt} (h : HInv l0 S) {n : Nat} {c c' : PCl} (hn : S.cls[n]? = some c) (h1 : c'.ops = c.ops) (h2 : c'.begun = c.begun) {lk : Nat → Bool} {L : List (Int × ByteArray)} : HInv l0 ⟨S.cls.set n c', lk, L, S.hist⟩ := by
  refine ⟨by simpa using h.len, h.rng, fun i d hd => ?_, fun i d hd => ?_, ?_⟩
  · rcases (set_get hn).1 hd with ⟨rfl, rfl⟩ | ⟨hin, hd⟩
    · obtain ⟨d, k1, k2⟩ := h.cl i c hn
      exact ⟨d, by rw [k1]; unfold opened; rw [h1, h2], by rw [h1]; exact k2⟩
    · exact h.cl i d hd
  · rcases (set_get hn).1 hd with ⟨rfl, rfl⟩ | ⟨hin, hd⟩
    · rw [h1, h2]
      exact h.opn i c hn
    · exact h.opn i d hd
  · have := sum_set (S.cls.map bg) n (bg c) (bg c') (by rw [List.getElem?_map, hn]; rfl)
    rw [← List.map_set, show bg c' = bg c by unfold bg; rw [h2]] at this
    have hb := h.bal
    show cb S.hist = ce S.hist + ((S.cls.set n c').map bg).sum
    omega
theorem HInv.tell {l0 : List (List POp)} {S : PSt} (h : HInv l0 S) {n : Nat} {c c' : PCl} (hn : S.cls[n]? = some c) {m : PMo} (hm : m.f0 = (n : Int)) {d' : List (POp × PRep)}
    (h1 : proj n S.hist ++ [m] = pairs n d' ++ opened n c') (h2 : (rd_L3 l0 (n : Nat)).filter okB = d'.map (·.1) ++ c'.ops) (h3 : c'.begun = true → c'.ops ≠ []) (h4 : (if m.f1 = true then 1 else 0) + bg c = bg c' + (if m.f1 = true then 0 else 1)) {lk : Nat → Bool} {L : List (Int × ByteArray)} : HInv l0 ⟨S.cls.set n c', lk, L, S.hist ++ [m]⟩ := by
  have hnl : n < l0.length := by rw [← h.len]; exact (List.getElem?_eq_some_iff.1 hn).1
  refine ⟨by simpa using h.len, fun m' q => ?_, fun i d hd => ?_, fun i d hd => ?_, ?_⟩
  · rcases List.mem_append.1 q with q | q
    · exact h.rng m' q
    · rw [List.mem_singleton] at q
      rw [q]
      exact ⟨n, hnl, hm⟩
  · show ∃ d', proj i (S.hist ++ [m]) = _ ∧ _
    rw [proj_snoc]
    rcases (set_get hn).1 hd with ⟨rfl, rfl⟩ | ⟨hin, hd⟩
    · rw [if_pos hm]
      exact ⟨d', h1, h2⟩
    · rw [if_neg (fun e => hin (by omega)), List.append_nil]
      exact h.cl i d hd
  · rcases (set_get hn).1 hd with ⟨rfl, rfl⟩ | ⟨hin, hd⟩
    · exact h3
    · exact h.opn i d hd
  · have := sum_set (S.cls.map bg) n (bg c) (bg c') (by rw [List.getElem?_map, hn]; rfl)
    have hb := h.bal
    show cb (S.hist ++ [m]) = ce (S.hist ++ [m]) + ((S.cls.set n c').map bg).sum
    unfold cb ce at hb ⊢
    rw [List.map_set, List.filter_append, List.filter_append, List.length_append, List.length_append]
    cases hm1 : m.f1 with
    | true => simp [hm1] at h4 ⊢; omega
    | false => simp [hm1] at h4 ⊢; omega
theorem HInv.step {l0 : List (List POp)} {S : PSt} (h : HInv l0 S) {n : Nat} {c : PCl} (hn : S.cls[n]? = some c) {o : POp} {rest : List POp} (ho : c.ops = o :: rest) : HInv l0 (stepP S n c o rest) := by
  obtain ⟨d, k1, k2⟩ := h.cl n c hn
  unfold stepP
  split
  · rename_i hb
    refine h.tell (c' := { c with begun := true }) hn rfl (d' := d) ?_ k2 (fun _ => by show c.ops ≠ []; rw [ho]; simp) (by simp [bg, hb])
    rw [k1]
    simp [opened, hb, ho]
  · rename_i hb
    have hb1 : c.begun = true := by simpa using hb
    split
    · rename_i r hr
      refine h.tell (c' := { c with ops := rest, begun := false, reply := none }) hn rfl (d' := d ++ [(o, r)]) ?_ ?_ (fun q => by cases q) (by simp [bg, hb1])
      · rw [k1, pairs_snoc]
        simp [opened, hb1, ho]
      · rw [k2, ho]
        simp
    · split
      · exact h.turn (c' := { c with lockd := c.lockd + 1 }) hn rfl rfl
      · unfold effectP
        exact h.turn (c' := { c with reply := some (repOf S.L o), lockd := if o.f0 = 1 ∨ o.f0 = 2 then c.lockd else 0 }) hn rfl rfl
theorem HInv.init (l0 : List (List POp)) : HInv l0 (initP l0) := by
  refine ⟨by simp [initP], fun m hm => by simp [initP] at hm, fun n c hc => ?_, fun n c hc hb => ?_, ?_⟩
  · unfold initP at hc
    rw [List.getElem?_map, Option.map_eq_some_iff] at hc
    obtain ⟨ops, h1, rfl⟩ := hc
    refine ⟨[], rfl, ?_⟩
    unfold rd_L3
    rw [Int.toNat_natCast, List.getD_eq_getElem?_getD, h1]
    rfl
  · unfold initP at hc
    rw [List.getElem?_map, Option.map_eq_some_iff] at hc
    obtain ⟨ops, h1, rfl⟩ := hc
    cases hb
  · show cb [] = ce [] + _
    have : ∀ l : List (List POp), ((l.map fun ops => newC (ops.filter okB)).map bg).sum = 0 := fun l => by
      induction l with
      | nil => rfl
      | cons a l ih => simp only [List.map_cons, List.sum_cons, ih]; rfl
    have h2 : ((initP l0).cls.map bg).sum = 0 := this l0
    rw [h2]
    rfl
/-! #### what a play's end is -/
structure OverH (l0 : List (List POp)) (H : List PMo) : Prop where
  rng : ∀ m ∈ H, ∃ n : Nat, n < l0.length ∧ m.f0 = (n : Int)
  cl : ∀ n : Nat, n < l0.length → ∃ d : List (POp × PRep), proj n H = pairs n d ∧ (rd_L3 l0 (n : Nat)).filter okB = d.map (·.1)
  bal : cb H = ce H
theorem LInv.init (l0 : List (List POp)) : LInv (initP l0) := by
  have h : ∀ (n : Nat) (c : PCl), (initP l0).cls[n]? = some c → c.reply = none ∧ c.lockd = 0 := fun n c hc => by
    unfold initP at hc
    rw [List.getElem?_map, Option.map_eq_some_iff] at hc
    obtain ⟨ops, h1, rfl⟩ := hc
    exact ⟨rfl, rfl⟩
  refine ⟨fun n c hc _ => h n c hc, fun n c hc hp => ?_, fun n n' c c' hc _ hp => ?_, fun n c hc => ?_, fun j => ?_⟩
  · have := (h n c hc).2; omega
  · have := (h n c hc).2; omega
  · have := (h n c hc).2; omega
  · constructor
    · intro q; cases q
    · rintro ⟨n, c, hc, hj⟩
      have := (h n c hc).2; omega
/-- the invariants of a play -/
structure PlayInv (l0 : List (List POp)) (S : PSt) : Prop where
  p : PInv (mu (initP l0)) S
  l : LInv S
  h : HInv l0 S
theorem PlayInv.step {l0 : List (List POp)} (S : PSt) (n : Nat) (c : PCl) (o : POp) (rest : List POp) (h : PlayInv l0 S) (hn : S.cls[n]? = some c) (ho : c.ops = o :: rest) (hc : canB S c = true) : PlayInv l0 (stepP S n c o rest) :=
  ⟨(h.p.step hn ho).1, h.l.step hn ho ((h.p.ok n c hn).1 o (by rw [ho]; simp)) hc, h.h.step hn ho⟩
theorem PlayInv.init (l0 : List (List POp)) : PlayInv l0 (initP l0) := ⟨init_inv l0, LInv.init l0, HInv.init l0⟩
theorem mo_get {H : List PMo} {i : Nat} (h : i < H.length) : mo H i = H[i]'h := by
  show rd_T52 H (i : Nat) = _
  unfold rd_T52
  simp [h]
/-- where a beginning stands among the calls that are over -/
theorem pairs_split (n : Nat) {b : PMo} {post : List PMo} (hb : b.f1 = true) : ∀ (d : List (POp × PRep)) (pre : List PMo), pairs n d = pre ++ b :: post → ∃ (x : POp × PRep) (d1 d2 : List (POp × PRep)), d = d1 ++ x :: d2 ∧ pre = pairs n d1 ∧ b = ⟨(n : Nat), true, x.1, zRep⟩ ∧ post = ⟨(n : Nat), false, x.1, x.2⟩ :: pairs n d2
  | [], pre, h => by simp [pairs] at h
  | x :: d, pre, h => by
    match pre, h with
    | [], h =>
      have h' : (⟨(n : Nat), true, x.1, zRep⟩ : PMo) :: ⟨(n : Nat), false, x.1, x.2⟩ :: pairs n d = b :: post := h
      injection h' with e1 e2
      exact ⟨x, [], d, rfl, rfl, e1.symm, e2.symm⟩
    | [y], h =>
      have h' : (⟨(n : Nat), true, x.1, zRep⟩ : PMo) :: ⟨(n : Nat), false, x.1, x.2⟩ :: pairs n d = y :: b :: post := h
      injection h' with _ e2
      injection e2 with e2 _
      rw [← e2] at hb
      cases hb
    | y :: z :: pre, h =>
      have h' : (⟨(n : Nat), true, x.1, zRep⟩ : PMo) :: ⟨(n : Nat), false, x.1, x.2⟩ :: pairs n d = y :: z :: (pre ++ b :: post) := h
      injection h' with e1 e2
      injection e2 with e2 e3
      obtain ⟨x', d1, d2, k1, k2, k3, k4⟩ := pairs_split n hb d pre e3
      exact ⟨x', x :: d1, d2, by rw [k1]; rfl, by rw [k2, ← e1, ← e2]; rfl, k3, k4⟩
theorem first_of (n : Nat) : ∀ (l : List PMo) (e : PMo) (rest : List PMo), proj n l = e :: rest → ∃ k, ∃ h : k < l.length, l[k]'h = e ∧ e.f0 = (n : Int) ∧ ∀ k' (h' : k' < l.length), k' < k → (l[k']'h').f0 ≠ (n : Int)
  | [], e, rest, h => by simp [proj] at h
  | x :: l, e, rest, h => by
    unfold proj at h
    rw [List.filter_cons] at h
    by_cases hx : x.f0 = (n : Int)
    · rw [if_pos (by simp [hx])] at h
      injection h with h1 _
      exact ⟨0, by simp, h1, by rw [← h1]; exact hx, fun k' _ hk => by omega⟩
    · rw [if_neg (by simp [hx])] at h
      obtain ⟨k, hk, h1, h2, h3⟩ := first_of n l e rest h
      refine ⟨k + 1, by simpa using hk, by simpa using h1, h2, fun k' hk' hlt => ?_⟩
      match k', hk', hlt with
      | 0, _, _ => exact hx
      | k' + 1, hk', hlt => exact h3 k' (by simpa using hk') (by omega)
theorem proj_append (n : Nat) (l m : List PMo) : proj n (l ++ m) = proj n l ++ proj n m := List.filter_append ..
/-- a beginning and its end -/
theorem OverH.next {l0 : List (List POp)} {H : List PMo} (h : OverH l0 H) {i : Nat} (hi : i < H.length) (hb : (mo H i).f1 = true) :
    ∃ k, i < k ∧ k < H.length ∧ (mo H k).f0 = (mo H i).f0 ∧ (mo H k).f1 = false ∧ (mo H k).f2 = (mo H i).f2 ∧ ∀ k', i < k' → k' < k → (mo H k').f0 ≠ (mo H i).f0 := by
  rw [mo_get hi] at hb ⊢
  obtain ⟨n, hn, hf⟩ := h.rng _ (List.getElem_mem hi)
  obtain ⟨d, hd, _⟩ := h.cl n hn
  have hs : H = H.take i ++ H[i] :: H.drop (i + 1) := by rw [← List.drop_eq_getElem_cons hi, List.take_append_drop]
  have hp : proj n H = proj n (H.take i) ++ H[i] :: proj n (H.drop (i + 1)) := by
    conv => lhs; rw [hs]
    rw [proj_append]
    congr 1
    unfold proj
    rw [List.filter_cons, if_pos (by simp [hf])]
  rw [hd] at hp
  obtain ⟨x, d1, d2, _, _, hbx, hpost⟩ := pairs_split n hb d _ hp
  obtain ⟨k, hk, h1, h2, h3⟩ := first_of n _ _ _ hpost
  rw [List.length_drop] at hk
  have hk2 : i + 1 + k < H.length := by omega
  rw [List.getElem_drop] at h1
  refine ⟨i + 1 + k, by omega, hk2, ?_⟩
  rw [mo_get hk2, h1]
  refine ⟨by rw [hf], rfl, by rw [hbx], fun k' hk1 hk3 => ?_⟩
  have hk4 : k' < H.length := by omega
  rw [mo_get hk4, hf]
  have := h3 (k' - (i + 1)) (by rw [List.length_drop]; omega) (by omega)
  rw [List.getElem_drop] at this
  have e : i + 1 + (k' - (i + 1)) = k' := by omega
  simpa [e] using this
theorem callL_mem {H : List PMo} {nx : Nat → Nat} {c : PCall} : ∀ {i : Nat}, c ∈ callL H nx i → ∃ p, p < i ∧ (mo H p).f1 = true ∧ c = ⟨(p : Int), (nx p : Nat), (mo H p).f2, (mo H (nx p)).f3⟩
  | 0, h => by cases h
  | i + 1, h => by
    unfold callL at h
    rcases List.mem_append.1 h with q | q
    · obtain ⟨p, h1, h2⟩ := callL_mem q
      exact ⟨p, by omega, h2⟩
    · by_cases e : (mo H i).f1 = true
      · rw [if_pos e, List.mem_singleton] at q
        exact ⟨i, by omega, e, q⟩
      · rw [if_neg e] at q
        cases q
theorem callL_rest {H : List PMo} {nx : Nat → Nat} (n : Nat) : ∀ {i : Nat}, i ≤ H.length → ((callL H nx i).filter fun (c : PCall) => decide ((rd_T52 H c.f0).f0 = (n : Int))).map (·.f2) = ((proj n (H.take i)).filter fun (m : PMo) => m.f1).map (·.f2)
  | 0, _ => rfl
  | i + 1, hi => by
    have hil : i < H.length := by omega
    have ih := callL_rest (H := H) (nx := nx) n (i := i) (by omega)
    unfold callL
    rw [List.filter_append, List.map_append, ih, List.take_succ_eq_append_getElem hil, proj_append, List.filter_append, List.map_append]
    congr 1
    rw [← mo_get hil]
    unfold proj
    by_cases e : (mo H i).f1 = true
    · rw [if_pos e]
      by_cases q : (mo H i).f0 = (n : Int)
      · simp [q, e]
      · simp [q]
    · rw [if_neg e]
      by_cases q : (mo H i).f0 = (n : Int)
      · simp [q, e]
      · simp [q]
theorem endC_ce {H : List PMo} : ∀ {i : Nat}, i ≤ H.length → endC H i = ce (H.take i)
  | 0, _ => rfl
  | i + 1, hi => by
    have hil : i < H.length := by omega
    have ih := endC_ce (H := H) (i := i) (by omega)
    show endC H i + (if (mo H i).f1 = true then 0 else 1) = _
    unfold ce at *
    rw [ih, List.take_succ_eq_append_getElem hil, List.filter_append, List.length_append, ← mo_get hil]
    by_cases e : (mo H i).f1 = true
    · simp [e]
    · simp [e]
theorem cbce (H : List PMo) : cb H + ce H = H.length := by
  induction H with
  | nil => rfl
  | cons m H ih =>
    unfold cb ce at *
    rw [List.filter_cons, List.filter_cons]
    cases m.f1 <;> simp <;> omega
theorem pairs_begs (n : Nat) : ∀ d : List (POp × PRep), ((pairs n d).filter fun (m : PMo) => m.f1).map (·.f2) = d.map (·.1)
  | [] => rfl
  | x :: d => by
    have := pairs_begs n d
    simp [pairs, this]
theorem OverH.ends {l0 : List (List POp)} {H : List PMo} (h : OverH l0 H) (hl : H.length ≤ 16777216) : ∃ nx, EndsOk l0 H nx := by
  obtain ⟨nx, hnx⟩ : ∃ nx : Nat → Nat, ∀ i, i < H.length → (mo H i).f1 = true → i < nx i ∧ nx i < H.length ∧ (mo H (nx i)).f0 = (mo H i).f0 ∧ (mo H (nx i)).f1 = false ∧ (mo H (nx i)).f2 = (mo H i).f2 ∧ ∀ k', i < k' → k' < nx i → (mo H k').f0 ≠ (mo H i).f0 := by
    have : ∀ i, ∃ k, i < H.length → (mo H i).f1 = true → i < k ∧ k < H.length ∧ (mo H k).f0 = (mo H i).f0 ∧ (mo H k).f1 = false ∧ (mo H k).f2 = (mo H i).f2 ∧ ∀ k', i < k' → k' < k → (mo H k').f0 ≠ (mo H i).f0 := fun i => by
      by_cases hi : i < H.length ∧ (mo H i).f1 = true
      · obtain ⟨k, hk⟩ := h.next hi.1 hi.2
        exact ⟨k, fun _ _ => hk⟩
      · exact ⟨0, fun a b => absurd ⟨a, b⟩ hi⟩
    exact ⟨fun i => Classical.choose (this i), fun i => Classical.choose_spec (this i)⟩
  refine ⟨nx, ⟨⟨fun i hi hb => ⟨(hnx i hi hb).1, (hnx i hi hb).2.1⟩, fun i hi hb => (hnx i hi hb).2.2.1, fun i hi hb => (hnx i hi hb).2.2.2.1, fun i hi hb => (hnx i hi hb).2.2.2.2.1, fun i hi hb => (hnx i hi hb).2.2.2.2.2⟩, ?_, fun j c hc => ?_, fun n hn => ?_, hl⟩⟩
  · have h1 := endC_ce (H := H) (i := H.length) (Nat.le_refl _)
    have h2 := callL_len H nx H.length
    have h3 := cbce H
    have h4 := h.bal
    rw [List.take_length] at h1
    omega
  · obtain ⟨p, hp, hb, rfl⟩ := callL_mem (List.mem_of_getElem? hc)
    obtain ⟨n, hn, hf⟩ := h.rng _ (List.getElem_mem hp)
    exact ⟨p, n, rfl, hp, hn, by rw [mo_get hp]; exact hf⟩
  · unfold restC
    rw [List.drop_zero, callL_rest n (Nat.le_refl _), List.take_length]
    obtain ⟨d, hd, hd2⟩ := h.cl n hn
    rw [hd, pairs_begs, hd2]
theorem mo_old {H : List PMo} {m : PMo} {i : Nat} (h : i < H.length) : mo (H ++ [m]) i = mo H i := by
  rw [mo_get (by simp; omega), mo_get h, List.getElem_append_left h]
theorem mo_new {H : List PMo} {m : PMo} : mo (H ++ [m]) H.length = m := by
  rw [mo_get (by simp)]
  simp
/-- the table behind the first t effects (eff: where the calls begin, by effect) -/
def tabAt (H : List PMo) (eff : List Nat) : Nat → List (Int × ByteArray)
  | 0 => []
  | t + 1 => match eff[t]? with | some i => tabOf (tabAt H eff t) (mo H i).f2 | none => tabAt H eff t
theorem tabAt_hist {H : List PMo} {m : PMo} {eff : List Nat} (h : ∀ i ∈ eff, i < H.length) : ∀ t, tabAt (H ++ [m]) eff t = tabAt H eff t
  | 0 => rfl
  | t + 1 => by
    unfold tabAt
    cases q : eff[t]? with
    | none => exact tabAt_hist h t
    | some i =>
      simp only
      rw [tabAt_hist h t, mo_old (h i (List.mem_of_getElem? q))]
theorem tabAt_eff {H : List PMo} {eff : List Nat} {x : Nat} : ∀ t, t ≤ eff.length → tabAt H (eff ++ [x]) t = tabAt H eff t
  | 0, _ => rfl
  | t + 1, h => by
    unfold tabAt
    rw [List.getElem?_append_left (by omega), tabAt_eff t (by omega)]
/-- a call that is over: begun at i, ended at k -/
structure Closed (H : List PMo) (st ef : Nat → Nat) (eff : List Nat) (i k : Nat) : Prop where
  lt : i < k
  len : k < H.length
  cl : (mo H k).f0 = (mo H i).f0
  en : (mo H k).f1 = false
  op : (mo H k).f2 = (mo H i).f2
  no : ∀ j, i < j → j < k → (mo H j).f0 ≠ (mo H i).f0
  s1 : st i ≤ ef i
  s2 : ef i < st k
  at_ : eff[ef i]? = some i
  rep : (mo H k).f3 = repOf (tabAt H eff (ef i)) (mo H i).f2
/-- a call that its client is in -/
structure Opened (S : PSt) (st ef : Nat → Nat) (eff : List Nat) (n i : Nat) (c : PCl) : Prop where
  len : i < S.hist.length
  beg : (mo S.hist i).f1 = true
  cl : (mo S.hist i).f0 = (n : Int)
  op : ∃ rest, c.ops = (mo S.hist i).f2 :: rest
  no : ∀ j, i < j → j < S.hist.length → (mo S.hist j).f0 ≠ (n : Int)
  ev : ∀ r, c.reply = some r → st i ≤ ef i ∧ eff[ef i]? = some i ∧ r = repOf (tabAt S.hist eff (ef i)) (mo S.hist i).f2
  new : c.reply = none → i ∉ eff
structure TInv (S : PSt) (eff : List Nat) (st ef cur : Nat → Nat) : Prop where
  tab : S.L = tabAt S.hist eff eff.length
  sm : ∀ i j, i ≤ j → j < S.hist.length → st i ≤ st j
  sl : ∀ i, i < S.hist.length → st i ≤ eff.length
  beg : ∀ i, i < S.hist.length → (mo S.hist i).f1 = true → (∃ k, Closed S.hist st ef eff i k) ∨ ∃ (n : Nat) (c : PCl), S.cls[n]? = some c ∧ c.begun = true ∧ cur n = i
  opn : ∀ (n : Nat) (c : PCl), S.cls[n]? = some c → c.begun = true → Opened S st ef eff n (cur n) c
  cov : ∀ e i, eff[e]? = some i → i < S.hist.length ∧ (mo S.hist i).f1 = true ∧ ef i = e
  ok : ∀ i, i < S.hist.length → OpOk (mo S.hist i).f2
theorem TInv.in_eff {S : PSt} {eff : List Nat} {st ef cur : Nat → Nat} (h : TInv S eff st ef cur) {i : Nat} (hi : i ∈ eff) : i < S.hist.length := by
  obtain ⟨e, he⟩ := List.mem_iff_getElem?.1 hi
  exact (h.cov e i he).1
theorem Closed.hist {H : List PMo} {st ef : Nat → Nat} {eff : List Nat} {i k : Nat} (h : Closed H st ef eff i k) {m : PMo} {x : Nat} (he : ∀ i ∈ eff, i < H.length) : Closed (H ++ [m]) (fun j => if j = H.length then x else st j) ef eff i k := by
  have hk := h.len
  have hik := h.lt
  have hi : i < H.length := by omega
  refine ⟨hik, by simp; omega, ?_, ?_, ?_, fun j h1 h2 => ?_, ?_, ?_, h.at_, ?_⟩
  · rw [mo_old hk, mo_old hi]; exact h.cl
  · rw [mo_old hk]; exact h.en
  · rw [mo_old hk, mo_old hi]; exact h.op
  · rw [mo_old (by omega), mo_old hi]; exact h.no j h1 h2
  · rw [if_neg (by omega)]; exact h.s1
  · rw [if_neg (by omega)]; exact h.s2
  · rw [mo_old hk, mo_old hi, tabAt_hist he]; exact h.rep
theorem Closed.eff {H : List PMo} {st ef : Nat → Nat} {eff : List Nat} {i k x : Nat} (h : Closed H st ef eff i k) (hx : x ≠ i) : Closed H st (fun j => if j = x then eff.length else ef j) (eff ++ [x]) i k := by
  have hl : ef i < eff.length := (List.getElem?_eq_some_iff.1 h.at_).1
  refine ⟨h.lt, h.len, h.cl, h.en, h.op, h.no, ?_, ?_, ?_, ?_⟩
  · simp only [if_neg (Ne.symm hx)]; exact h.s1
  · simp only [if_neg (Ne.symm hx)]; exact h.s2
  · simp only [if_neg (Ne.symm hx)]
    rw [List.getElem?_append_left hl]; exact h.at_
  · simp only [if_neg (Ne.symm hx)]
    rw [tabAt_eff _ (by omega)]; exact h.rep
theorem sm_new {H : List PMo} {st : Nat → Nat} {x : Nat} (sm : ∀ i j, i ≤ j → j < H.length → st i ≤ st j) (sl : ∀ i, i < H.length → st i ≤ x) (m : PMo) : ∀ i j, i ≤ j → j < (H ++ [m]).length → (if i = H.length then x else st i) ≤ (if j = H.length then x else st j) := fun i j hij hj => by
  simp only [List.length_append, List.length_singleton] at hj
  by_cases e1 : j = H.length
  · rw [if_pos e1]
    split
    · exact Nat.le_refl _
    · exact sl i (by omega)
  · rw [if_neg e1, if_neg (by omega)]
    exact sm i j hij (by omega)
theorem TInv.step {S : PSt} {eff : List Nat} {st ef cur : Nat → Nat} (h : TInv S eff st ef cur) (hl : LInv S) {n : Nat} {c : PCl} (hn : S.cls[n]? = some c) {o : POp} {rest : List POp} (ho : c.ops = o :: rest) (hok : OpOk o) :
    ∃ eff' st' ef' cur', TInv (stepP S n c o rest) eff' st' ef' cur' := by
  have hin : ∀ i ∈ eff, i < S.hist.length := fun i hi => h.in_eff hi
  unfold stepP
  split
  · -- a call begins
    rename_i hb
    have hlen : (S.hist ++ [(⟨(n : Nat), true, o, zRep⟩ : PMo)]).length = S.hist.length + 1 := by simp
    have hother : ∀ (i : Nat) (d : PCl), S.cls[i]? = some d → d.begun = true → i ≠ n := fun i d hd hdb e => by
      subst e
      rw [hn] at hd
      cases hd
      rw [hb] at hdb
      cases hdb
    have hopn : ∀ (i : Nat) (d : PCl), S.cls[i]? = some d → d.begun = true → i ≠ n → Opened ⟨S.cls.set n { c with begun := true }, S.lk, S.L, S.hist ++ [⟨(n : Nat), true, o, zRep⟩]⟩ (fun j => if j = S.hist.length then eff.length else st j) ef eff i (cur i) d := fun i d hd hdb hin' => by
      have q := h.opn i d hd hdb
      refine ⟨by show _ < (S.hist ++ [_]).length; rw [hlen]; have := q.len; omega, ?_, ?_, ?_, fun j h1 h2 => ?_, fun r hr => ?_, q.new⟩
      · show (mo (S.hist ++ [_]) _).f1 = true
        rw [mo_old q.len]; exact q.beg
      · show (mo (S.hist ++ [_]) _).f0 = _
        rw [mo_old q.len]; exact q.cl
      · show ∃ rest, d.ops = (mo (S.hist ++ [_]) _).f2 :: rest
        rw [mo_old q.len]; exact q.op
      · show (mo (S.hist ++ [_]) _).f0 ≠ _
        have h2' : j < (S.hist ++ [(⟨(n : Nat), true, o, zRep⟩ : PMo)]).length := h2
        rw [hlen] at h2'
        by_cases e : j = S.hist.length
        · rw [e, mo_new]
          intro e2
          exact hin' (Int.ofNat_inj.1 e2).symm
        · rw [mo_old (by omega)]
          exact q.no j h1 (by omega)
      · obtain ⟨k1, k2, k3⟩ := q.ev r hr
        refine ⟨?_, k2, ?_⟩
        · rw [if_neg (by have := q.len; omega)]; exact k1
        · show r = repOf (tabAt (S.hist ++ [_]) _ _) (mo (S.hist ++ [_]) _).f2
          rw [tabAt_hist hin, mo_old q.len]; exact k3
    refine ⟨eff, fun j => if j = S.hist.length then eff.length else st j, ef, fun i => if i = n then S.hist.length else cur i, ?_, sm_new h.sm h.sl _, fun i hi => ?_, fun i hi hib => ?_, fun i d hd hdb => ?_, fun e i he => ?_, fun i hi => ?_⟩
    · show S.L = tabAt (S.hist ++ [_]) eff eff.length
      rw [tabAt_hist hin]; exact h.tab
    · have hi' : i < (S.hist ++ [(⟨(n : Nat), true, o, zRep⟩ : PMo)]).length := hi
      rw [hlen] at hi'
      show (if i = S.hist.length then eff.length else st i) ≤ eff.length
      split
      · exact Nat.le_refl _
      · exact h.sl i (by omega)
    · have hi' : i < (S.hist ++ [(⟨(n : Nat), true, o, zRep⟩ : PMo)]).length := hi
      rw [hlen] at hi'
      by_cases e : i = S.hist.length
      · refine .inr ⟨n, { c with begun := true }, (set_get hn).2 (.inl ⟨rfl, rfl⟩), rfl, by simp [e]⟩
      · have hib' : (mo (S.hist ++ [(⟨(n : Nat), true, o, zRep⟩ : PMo)]) i).f1 = true := hib
        rw [mo_old (by omega)] at hib'
        rcases h.beg i (by omega) hib' with ⟨k, hk⟩ | ⟨n', d, hd, hdb, hcur⟩
        · exact .inl ⟨k, hk.hist hin⟩
        · have hne := hother n' d hd hdb
          exact .inr ⟨n', d, (set_get hn).2 (.inr ⟨hne, hd⟩), hdb, by simp [hne, hcur]⟩
    · rcases (set_get hn).1 hd with ⟨rfl, rfl⟩ | ⟨hne, hd⟩
      · simp only [if_true]
        refine ⟨by show _ < (S.hist ++ [_]).length; rw [hlen]; omega, ?_, ?_, ⟨rest, ?_⟩, fun j h1 h2 => ?_, fun r hr => ?_, fun _ hmem => ?_⟩
        · show (mo (S.hist ++ [_]) _).f1 = true
          rw [mo_new]
        · show (mo (S.hist ++ [_]) _).f0 = _
          rw [mo_new]
        · show c.ops = (mo (S.hist ++ [_]) _).f2 :: rest
          rw [mo_new]; exact ho
        · have h2' : j < (S.hist ++ [(⟨(i : Nat), true, o, zRep⟩ : PMo)]).length := h2
          rw [hlen] at h2'
          omega
        · have hr' : c.reply = some r := hr
          rw [(hl.idle i c hn hb).1] at hr'
          cases hr'
        · have := hin _ hmem
          omega
      · simp only [if_neg hne]
        exact hopn i d hd hdb hne
    · obtain ⟨k1, k2, k3⟩ := h.cov e i he
      refine ⟨by show _ < (S.hist ++ [_]).length; rw [hlen]; omega, ?_, k3⟩
      show (mo (S.hist ++ [_]) i).f1 = true
      rw [mo_old k1]; exact k2
    · have hi' : i < (S.hist ++ [(⟨(n : Nat), true, o, zRep⟩ : PMo)]).length := hi
      rw [hlen] at hi'
      show OpOk (mo (S.hist ++ [_]) i).f2
      by_cases e : i = S.hist.length
      · rw [e, mo_new]; exact hok
      · rw [mo_old (by omega)]; exact h.ok i (by omega)
  · rename_i hb
    have hb1 : c.begun = true := by simpa using hb
    have hop := h.opn n c hn hb1
    obtain ⟨rest', hrest'⟩ := hop.op
    have hfo : (mo S.hist (cur n)).f2 = o := by
      rw [ho] at hrest'
      injection hrest' with e _
      exact e.symm
    split
    · -- a call ends
      rename_i r hr
      obtain ⟨g1, g2, g3⟩ := hop.ev r hr
      have hgl : ef (cur n) < eff.length := (List.getElem?_eq_some_iff.1 g2).1
      have hlen : (S.hist ++ [(⟨(n : Nat), false, o, r⟩ : PMo)]).length = S.hist.length + 1 := by simp
      refine ⟨eff, fun j => if j = S.hist.length then eff.length else st j, ef, cur, ?_, sm_new h.sm h.sl _, fun i hi => ?_, fun i hi hib => ?_, fun i d hd hdb => ?_, fun e i he => ?_, fun i hi => ?_⟩
      · show S.L = tabAt (S.hist ++ [_]) eff eff.length
        rw [tabAt_hist hin]; exact h.tab
      · have hi' : i < (S.hist ++ [(⟨(n : Nat), false, o, r⟩ : PMo)]).length := hi
        rw [hlen] at hi'
        show (if i = S.hist.length then eff.length else st i) ≤ eff.length
        split
        · exact Nat.le_refl _
        · exact h.sl i (by omega)
      · have hi' : i < (S.hist ++ [(⟨(n : Nat), false, o, r⟩ : PMo)]).length := hi
        rw [hlen] at hi'
        have hib' : (mo (S.hist ++ [(⟨(n : Nat), false, o, r⟩ : PMo)]) i).f1 = true := hib
        by_cases e : i = S.hist.length
        · rw [e, mo_new] at hib'
          cases hib'
        · rw [mo_old (by omega)] at hib'
          rcases h.beg i (by omega) hib' with ⟨k, hk⟩ | ⟨n', d, hd, hdb, hcur⟩
          · exact .inl ⟨k, hk.hist hin⟩
          · by_cases hne : n' = n
            · subst hne
              subst hcur
              refine .inl ⟨S.hist.length, hop.len, by rw [hlen]; omega, ?_, ?_, ?_, fun j h1 h2 => ?_, ?_, ?_, g2, ?_⟩
              · rw [mo_new, mo_old hop.len, hop.cl]
              · rw [mo_new]
              · rw [mo_new, mo_old hop.len, hfo]
              · rw [mo_old h2, mo_old hop.len, hop.cl]; exact hop.no j h1 h2
              · rw [if_neg (by have := hop.len; omega)]; exact g1
              · rw [if_pos rfl]; exact hgl
              · rw [mo_new, mo_old hop.len, tabAt_hist hin]; exact g3
            · exact .inr ⟨n', d, (set_get hn).2 (.inr ⟨hne, hd⟩), hdb, hcur⟩
      · rcases (set_get hn).1 hd with ⟨rfl, rfl⟩ | ⟨hne, hd⟩
        · cases hdb
        · have q := h.opn i d hd hdb
          refine ⟨by show _ < (S.hist ++ [_]).length; rw [hlen]; have := q.len; omega, ?_, ?_, ?_, fun j h1 h2 => ?_, fun r' hr' => ?_, q.new⟩
          · show (mo (S.hist ++ [_]) _).f1 = true
            rw [mo_old q.len]; exact q.beg
          · show (mo (S.hist ++ [_]) _).f0 = _
            rw [mo_old q.len]; exact q.cl
          · show ∃ rest, d.ops = (mo (S.hist ++ [_]) _).f2 :: rest
            rw [mo_old q.len]; exact q.op
          · show (mo (S.hist ++ [_]) _).f0 ≠ _
            have h2' : j < (S.hist ++ [(⟨(n : Nat), false, o, r⟩ : PMo)]).length := h2
            rw [hlen] at h2'
            by_cases e : j = S.hist.length
            · rw [e, mo_new]
              intro e2
              exact hne (Int.ofNat_inj.1 e2).symm
            · rw [mo_old (by omega)]
              exact q.no j h1 (by omega)
          · obtain ⟨k1, k2, k3⟩ := q.ev r' hr'
            refine ⟨?_, k2, ?_⟩
            · rw [if_neg (by have := q.len; omega)]; exact k1
            · show r' = repOf (tabAt (S.hist ++ [_]) _ _) (mo (S.hist ++ [_]) _).f2
              rw [tabAt_hist hin, mo_old q.len]; exact k3
      · obtain ⟨k1, k2, k3⟩ := h.cov e i he
        refine ⟨by show _ < (S.hist ++ [_]).length; rw [hlen]; omega, ?_, k3⟩
        show (mo (S.hist ++ [_]) i).f1 = true
        rw [mo_old k1]; exact k2
      · have hi' : i < (S.hist ++ [(⟨(n : Nat), false, o, r⟩ : PMo)]).length := hi
        rw [hlen] at hi'
        show OpOk (mo (S.hist ++ [_]) i).f2
        by_cases e : i = S.hist.length
        · rw [e, mo_new]; exact hok
        · rw [mo_old (by omega)]; exact h.ok i (by omega)
    · rename_i hr
      split
      · -- a lock is taken
        refine ⟨eff, st, ef, cur, h.tab, h.sm, h.sl, fun i hi hib => ?_, fun i d hd hdb => ?_, h.cov, h.ok⟩
        · rcases h.beg i hi hib with q | ⟨n', d, hd, hdb, hcur⟩
          · exact .inl q
          · by_cases hne : n' = n
            · subst hne
              exact .inr ⟨n', _, (set_get hn).2 (.inl ⟨rfl, rfl⟩), hb1, hcur⟩
            · exact .inr ⟨n', d, (set_get hn).2 (.inr ⟨hne, hd⟩), hdb, hcur⟩
        · rcases (set_get hn).1 hd with ⟨rfl, rfl⟩ | ⟨hne, hd⟩
          · exact ⟨hop.len, hop.beg, hop.cl, hop.op, hop.no, hop.ev, hop.new⟩
          · have q := h.opn i d hd hdb
            exact ⟨q.len, q.beg, q.cl, q.op, q.no, q.ev, q.new⟩
      · -- a call takes effect
        unfold effectP
        have hnew := hop.new hr
        have hcurne : ∀ (i : Nat) (d : PCl), S.cls[i]? = some d → d.begun = true → i ≠ n → cur i ≠ cur n := fun i d hd hdb hne e => by
          have q := h.opn i d hd hdb
          have h1 := q.cl
          rw [e, hop.cl] at h1
          exact hne (Int.ofNat_inj.1 h1).symm
        refine ⟨eff ++ [cur n], st, fun j => if j = cur n then eff.length else ef j, cur, ?_, h.sm, fun i hi => ?_, fun i hi hib => ?_, fun i d hd hdb => ?_, fun e i he => ?_, h.ok⟩
        · show tabOf S.L o = tabAt S.hist (eff ++ [cur n]) (eff ++ [cur n]).length
          rw [List.length_append, List.length_singleton]
          unfold tabAt
          rw [List.getElem?_append_right (Nat.le_refl _), Nat.sub_self]
          simp only [List.getElem?_cons_zero]
          rw [tabAt_eff _ (Nat.le_refl _), ← h.tab, hfo]
        · have := h.sl i hi
          simp only [List.length_append, List.length_singleton]
          omega
        · rcases h.beg i hi hib with ⟨k, hk⟩ | ⟨n', d, hd, hdb, hcur⟩
          · refine .inl ⟨k, hk.eff fun e => ?_⟩
            subst e
            exact hop.no k hk.lt hk.len (by rw [hk.cl]; exact hop.cl)
          · by_cases hne : n' = n
            · subst hne
              exact .inr ⟨n', _, (set_get hn).2 (.inl ⟨rfl, rfl⟩), hb1, hcur⟩
            · exact .inr ⟨n', d, (set_get hn).2 (.inr ⟨hne, hd⟩), hdb, hcur⟩
        · rcases (set_get hn).1 hd with ⟨rfl, rfl⟩ | ⟨hne, hd⟩
          · refine ⟨hop.len, hop.beg, hop.cl, hop.op, hop.no, fun r hr' => ?_, fun hr' => by cases hr'⟩
            have hr2 : some (repOf S.L o) = some r := hr'
            injection hr2 with hr2
            simp only [if_true]
            refine ⟨h.sl _ hop.len, by rw [List.getElem?_append_right (Nat.le_refl _), Nat.sub_self]; rfl, ?_⟩
            show r = repOf (tabAt S.hist (eff ++ [cur i]) eff.length) (mo S.hist (cur i)).f2
            rw [tabAt_eff _ (Nat.le_refl _), ← h.tab, hfo]
            exact hr2.symm
          · have q := h.opn i d hd hdb
            have hcn := hcurne i d hd hdb hne
            refine ⟨q.len, q.beg, q.cl, q.op, q.no, fun r hr' => ?_, fun hr' => ?_⟩
            · obtain ⟨k1, k2, k3⟩ := q.ev r hr'
              have hl2 : ef (cur i) < eff.length := (List.getElem?_eq_some_iff.1 k2).1
              simp only [if_neg hcn]
              refine ⟨k1, by rw [List.getElem?_append_left hl2]; exact k2, ?_⟩
              show r = repOf (tabAt S.hist (eff ++ [cur n]) (ef (cur i))) _
              rw [tabAt_eff _ (by omega)]
              exact k3
            · intro hm
              rcases List.mem_append.1 hm with q2 | q2
              · exact q.new hr' q2
              · exact hcn (List.mem_singleton.1 q2)
        · by_cases hel : e < eff.length
          · rw [List.getElem?_append_left hel] at he
            obtain ⟨k1, k2, k3⟩ := h.cov e i he
            refine ⟨k1, k2, ?_⟩
            have : i ≠ cur n := fun e2 => hnew (by rw [← e2]; exact List.mem_of_getElem? he)
            simp only [if_neg this]
            exact k3
          · rw [List.getElem?_append_right (by omega)] at he
            have h0 : e - eff.length = 0 := by
              have := (List.getElem?_eq_some_iff.1 he).1
              simp at this
              omega
            rw [h0] at he
            have hi2 : cur n = i := by simpa using he
            subst hi2
            refine ⟨hop.len, hop.beg, ?_⟩
            simp only [if_true]
            omega
theorem TInv.init (l0 : List (List POp)) : TInv (initP l0) [] (fun _ => 0) (fun _ => 0) fun _ => 0 := by
  refine ⟨rfl, fun i j _ hj => Nat.le_refl _, fun i hi => Nat.le_refl _, fun i hi => by simp [initP] at hi, fun n c hc hb => ?_, fun e i he => by simp at he, fun i hi => by simp [initP] at hi⟩
  unfold initP at hc
  rw [List.getElem?_map, Option.map_eq_some_iff] at hc
  obtain ⟨ops, h1, rfl⟩ := hc
  cases hb
/-- by the place of its beginning: each call's end (nx), its moment of effect (ef); the table at each moment (T) -/
structure Timed (H : List PMo) (nx ef : Nat → Nat) (N : Nat) (T : Nat → List (Int × ByteArray)) : Prop where
  good : Good H nx
  lt : ∀ i, i < H.length → (mo H i).f1 = true → ef i < N
  inj : ∀ i j, i < H.length → (mo H i).f1 = true → j < H.length → (mo H j).f1 = true → ef i = ef j → i = j
  surj : ∀ e, e < N → ∃ i, i < H.length ∧ (mo H i).f1 = true ∧ ef i = e
  t0 : T 0 = []
  ts : ∀ i, i < H.length → (mo H i).f1 = true → T (ef i + 1) = tabOf (T (ef i)) (mo H i).f2
  rep : ∀ i, i < H.length → (mo H i).f1 = true → (mo H (nx i)).f3 = repOf (T (ef i)) (mo H i).f2
  clock : ∀ i j, i < H.length → (mo H i).f1 = true → j < H.length → (mo H j).f1 = true → nx i < j → ef i < ef j
  ok : ∀ i, i < H.length → (mo H i).f1 = true → OpOk (mo H i).f2
structure PlayInv2 (l0 : List (List POp)) (S : PSt) : Prop where
  p : PlayInv l0 S
  t : ∃ eff st ef cur, TInv S eff st ef cur
theorem PlayInv2.step {l0 : List (List POp)} (S : PSt) (n : Nat) (c : PCl) (o : POp) (rest : List POp) (h : PlayInv2 l0 S) (hn : S.cls[n]? = some c) (ho : c.ops = o :: rest) (hc : canB S c = true) : PlayInv2 l0 (stepP S n c o rest) := by
  obtain ⟨eff, st, ef, cur, ht⟩ := h.t
  exact ⟨h.p.step S n c o rest hn ho hc, ht.step h.p.l hn ho ((h.p.p.ok n c hn).1 o (by rw [ho]; simp))⟩
/-! #### the calls as they are told -/
abbrev ca (cs : List PCall) (j : Nat) : PCall := rd_T57 cs (j : Nat)
theorem ca_get {cs : List PCall} {j : Nat} (h : j < cs.length) : ca cs j = cs[j]'h := by
  show rd_T57 cs (j : Nat) = _
  unfold rd_T57
  simp [h]
/-- calls, their moments of effect (tm), the table at each moment -/
structure CallsOk (cs : List PCall) (tm : Nat → Nat) (N : Nat) (T : Nat → List (Int × ByteArray)) : Prop where
  lt : ∀ j, j < cs.length → tm j < N
  inj : ∀ i j, i < cs.length → j < cs.length → tm i = tm j → i = j
  surj : ∀ e, e < N → ∃ j, j < cs.length ∧ tm j = e
  t0 : T 0 = []
  ts : ∀ j, j < cs.length → T (tm j + 1) = tabOf (T (tm j)) (ca cs j).f2
  rep : ∀ j, j < cs.length → (ca cs j).f3 = repOf (T (tm j)) (ca cs j).f2
  clock : ∀ i j, i < cs.length → j < cs.length → (ca cs i).f1 < (ca cs j).f0 → tm i < tm j
  ok : ∀ j, j < cs.length → OpOk (ca cs j).f2
theorem callL_at {H : List PMo} {nx : Nat → Nat} : ∀ (i : Nat), ∃ pos : Nat → Nat, (∀ j, j < (callL H nx i).length → pos j < i ∧ (mo H (pos j)).f1 = true ∧ ca (callL H nx i) j = ⟨((pos j : Nat) : Int), ((nx (pos j) : Nat) : Int), (mo H (pos j)).f2, (mo H (nx (pos j))).f3⟩) ∧
      (∀ j k, j < (callL H nx i).length → k < (callL H nx i).length → pos j = pos k → j = k) ∧ ∀ p, p < i → (mo H p).f1 = true → ∃ j, j < (callL H nx i).length ∧ pos j = p
  | 0 => ⟨fun _ => 0, fun j hj => by simp [callL] at hj, fun j k hj => by simp [callL] at hj, fun p hp => by omega⟩
  | i + 1 => by
    obtain ⟨pos, h1, h2, h3⟩ := callL_at (H := H) (nx := nx) i
    by_cases e : (mo H i).f1 = true
    · have hc : callL H nx (i + 1) = callL H nx i ++ [⟨(i : Int), (nx i : Nat), (mo H i).f2, (mo H (nx i)).f3⟩] := by
        show callL H nx i ++ _ = _
        rw [if_pos e]
      have hl : (callL H nx (i + 1)).length = (callL H nx i).length + 1 := by rw [hc]; simp
      refine ⟨fun j => if j = (callL H nx i).length then i else pos j, fun j hj => ?_, fun j k hj hk hjk => ?_, fun p hp hb => ?_⟩
      · rw [ca_get hj]
        by_cases q : j = (callL H nx i).length
        · subst q
          simp only [if_true]
          refine ⟨by omega, e, ?_⟩
          simp only [hc]
          rw [List.getElem_append_right (Nat.le_refl _)]
          simp
        · simp only [if_neg q]
          have hj' : j < (callL H nx i).length := by omega
          obtain ⟨k1, k2, k3⟩ := h1 j hj'
          refine ⟨by omega, k2, ?_⟩
          rw [← k3, ca_get hj']
          simp only [hc]
          rw [List.getElem_append_left hj']
      · have hjk' : (if j = (callL H nx i).length then i else pos j) = (if k = (callL H nx i).length then i else pos k) := hjk
        by_cases q1 : j = (callL H nx i).length <;> by_cases q2 : k = (callL H nx i).length
        · omega
        · rw [if_pos q1, if_neg q2] at hjk'
          have := (h1 k (by omega)).1
          omega
        · rw [if_neg q1, if_pos q2] at hjk'
          have := (h1 j (by omega)).1
          omega
        · rw [if_neg q1, if_neg q2] at hjk'
          exact h2 j k (by omega) (by omega) hjk'
      · by_cases q : p = i
        · exact ⟨(callL H nx i).length, by omega, by simp [q]⟩
        · obtain ⟨j, hj, hp2⟩ := h3 p (by omega) hb
          exact ⟨j, by omega, by simp only [if_neg (show ¬ j = (callL H nx i).length by omega)]; exact hp2⟩
    · have hc : callL H nx (i + 1) = callL H nx i := by
        show callL H nx i ++ _ = _
        rw [if_neg e, List.append_nil]
      rw [hc]
      refine ⟨pos, fun j hj => ?_, h2, fun p hp hb => ?_⟩
      · obtain ⟨k1, k2⟩ := h1 j hj
        exact ⟨by omega, k2⟩
      · refine h3 p ?_ hb
        rcases Nat.lt_or_ge p i with q | q
        · exact q
        · obtain rfl : p = i := by omega
          exact absurd hb e
theorem Timed.calls {H : List PMo} {nx ef : Nat → Nat} {N : Nat} {T : Nat → List (Int × ByteArray)} (h : Timed H nx ef N T) : ∃ tm, CallsOk (callL H nx H.length) tm N T := by
  obtain ⟨pos, h1, h2, h3⟩ := callL_at (H := H) (nx := nx) H.length
  refine ⟨fun j => ef (pos j), fun j hj => h.lt _ (h1 j hj).1 (h1 j hj).2.1, fun i j hi hj e => h2 i j hi hj (h.inj _ _ (h1 i hi).1 (h1 i hi).2.1 (h1 j hj).1 (h1 j hj).2.1 e), fun e he => ?_, h.t0, fun j hj => ?_, fun j hj => ?_, fun i j hi hj hij => ?_, fun j hj => ?_⟩
  · obtain ⟨p, p1, p2, p3⟩ := h.surj e he
    obtain ⟨j, hj, hp⟩ := h3 p p1 p2
    exact ⟨j, hj, by rw [hp]; exact p3⟩
  · rw [(h1 j hj).2.2]
    exact h.ts _ (h1 j hj).1 (h1 j hj).2.1
  · rw [(h1 j hj).2.2]
    exact h.rep _ (h1 j hj).1 (h1 j hj).2.1
  · rw [(h1 i hi).2.2, (h1 j hj).2.2] at hij
    have hij' : ((nx (pos i) : Nat) : Int) < ((pos j : Nat) : Int) := hij
    exact h.clock _ _ (h1 i hi).1 (h1 i hi).2.1 (h1 j hj).1 (h1 j hj).2.1 (by omega)
  · rw [(h1 j hj).2.2]
    exact h.ok _ (h1 j hj).1 (h1 j hj).2.1
def seesB (c : PCall) (k : Int) : Bool := if c.f2.f0 = 3 then decide (k ∈ c.f3.f2) else (decide (c.f2.f1 = k) && ((c.f2.f0 == 1) != c.f3.f0))
def missesB (c : PCall) (k : Int) : Bool := if c.f2.f0 = 3 then !seesB c k else (decide (c.f2.f1 = k) && (decide (c.f2.f0 = 2) && !c.f3.f0))
def madeB (c : PCall) : Bool := decide (c.f2.f0 = 1) && c.f3.f0
def aheadB (a b : PCall) : Bool := decide (a.f1 < b.f0) || (madeB a && seesB b a.f2.f1) || (madeB b && missesB a b.f2.f1)
section
variable {cs : List PCall} {tm : Nat → Nat} {N : Nat} {T : Nat → List (Int × ByteArray)}
theorem lookL_tab {L : List (Int × ByteArray)} {o : POp} (k : Int) : lookL (tabOf L o) k = if o.f0 = 1 ∧ lookL L o.f1 = none ∧ k = o.f1 then some o.f2 else lookL L k := by
  unfold tabOf
  by_cases h : o.f0 = 1 ∧ (lookL L o.f1).isNone = true
  · rw [if_pos h]
    have hn : lookL L o.f1 = none := by simpa using h.2
    rw [lookL_put _ _ _ hn]
    by_cases e : k = o.f1
    · rw [if_pos e, if_pos ⟨h.1, hn, e⟩]
    · rw [if_neg e, if_neg (fun q => e q.2.2)]
  · rw [if_neg h, if_neg (fun q => h ⟨q.1, by rw [q.2.1]; rfl⟩)]
theorem tab_rising {L : List (Int × ByteArray)} {o : POp} (h : (L.map (·.1)).Pairwise (· < ·)) : ((tabOf L o).map (·.1)).Pairwise (· < ·) := by
  unfold tabOf
  split
  · rename_i q
    refine putL_rising h fun hm => ?_
    have := (lookL_iff L o.f1).1 hm
    simp at q
    exact this q.2
  · exact h
theorem CallsOk.rising (h : CallsOk cs tm N T) : ∀ t, t ≤ N → ((T t).map (·.1)).Pairwise (· < ·)
  | 0, _ => by rw [h.t0]; exact List.Pairwise.nil
  | t + 1, ht => by
    obtain ⟨j, hj, e⟩ := h.surj t (by omega)
    rw [← e, h.ts j hj, e]
    exact tab_rising (h.rising t (by omega))
theorem CallsOk.mono (h : CallsOk cs tm N T) {k : Int} {v : ByteArray} {t : Nat} (hk : lookL (T t) k = some v) : ∀ d, t + d ≤ N → lookL (T (t + d)) k = some v
  | 0, _ => hk
  | d + 1, hd => by
    have ih := h.mono hk d (by omega)
    obtain ⟨j, hj, e⟩ := h.surj (t + d) (by omega)
    rw [show t + (d + 1) = tm j + 1 by omega, h.ts j hj, e, lookL_tab]
    rw [if_neg (fun q => by rw [q.2.2, q.2.1] at ih; cases ih)]
    exact ih
/-- this call gave the key its value -/
def Makes (cs : List PCall) (j : Nat) (k : Int) (v : ByteArray) : Prop := (ca cs j).f2.f0 = 1 ∧ (ca cs j).f3.f0 = true ∧ (ca cs j).f2.f1 = k ∧ (ca cs j).f2.f2 = v
theorem CallsOk.makes_none (h : CallsOk cs tm N T) {j : Nat} (hj : j < cs.length) {k : Int} {v : ByteArray} (hm : Makes cs j k v) : lookL (T (tm j)) k = none := by
  have hr := h.rep j hj
  have h2 := hm.2.1
  rw [hr] at h2
  unfold repOf at h2
  rw [if_pos hm.1, hm.2.2.1] at h2
  simpa using h2
theorem CallsOk.makes_some (h : CallsOk cs tm N T) {j : Nat} (hj : j < cs.length) {k : Int} {v : ByteArray} (hm : Makes cs j k v) {t : Nat} (ht : tm j < t) (htN : t ≤ N) : lookL (T t) k = some v := by
  have h1 : lookL (T (tm j + 1)) k = some v := by
    rw [h.ts j hj, lookL_tab, if_pos ⟨hm.1, by rw [hm.2.2.1]; exact h.makes_none hj hm, hm.2.2.1.symm⟩, hm.2.2.2]
  have := h.mono h1 (t - (tm j + 1)) (by omega)
  rwa [show tm j + 1 + (t - (tm j + 1)) = t by omega] at this
theorem CallsOk.maker (h : CallsOk cs tm N T) {k : Int} {v : ByteArray} : ∀ t, t ≤ N → lookL (T t) k = some v → ∃ j, j < cs.length ∧ tm j < t ∧ Makes cs j k v
  | 0, _, hk => by rw [h.t0] at hk; cases hk
  | t + 1, ht, hk => by
    obtain ⟨j, hj, e⟩ := h.surj t (by omega)
    rw [← e, h.ts j hj, e, lookL_tab] at hk
    by_cases q : (ca cs j).f2.f0 = 1 ∧ lookL (T t) (ca cs j).f2.f1 = none ∧ k = (ca cs j).f2.f1
    · rw [if_pos q] at hk
      refine ⟨j, hj, by omega, q.1, ?_, q.2.2.symm, Option.some.inj hk⟩
      rw [h.rep j hj, e]
      unfold repOf
      rw [if_pos q.1]
      simp [q.2.1]
    · rw [if_neg q] at hk
      obtain ⟨i, hi, h1, h2⟩ := h.maker t (by omega) hk
      exact ⟨i, hi, by omega, h2⟩
theorem CallsOk.sees (h : CallsOk cs tm N T) {j : Nat} (hj : j < cs.length) (k : Int) (hs : seesB (ca cs j) k = true) : ∃ v, lookL (T (tm j)) k = some v := by
  have hr := h.rep j hj
  have hok := h.ok j hj
  unfold seesB at hs
  rw [hr] at hs
  unfold repOf at hs
  rcases hok with q | q | q
  · rw [if_neg (by omega), if_pos q] at hs
    simp [q] at hs
    cases hl : lookL (T (tm j)) k with
    | none => rw [← hs.1] at hl; rw [hl] at hs; simp at hs
    | some v => exact ⟨v, rfl⟩
  · rw [if_neg (by omega), if_neg (by omega), if_pos q] at hs
    simp [q] at hs
    cases hl : lookL (T (tm j)) k with
    | none => rw [← hs.1] at hl; rw [hl] at hs; simp at hs
    | some v => exact ⟨v, rfl⟩
  · rw [if_pos q, if_neg (by omega), if_neg (by omega)] at hs
    have h3 := (lookL_iff (T (tm j)) k).1 (of_decide_eq_true hs)
    exact Option.ne_none_iff_exists'.1 h3
theorem CallsOk.misses (h : CallsOk cs tm N T) {j : Nat} (hj : j < cs.length) (k : Int) (hs : missesB (ca cs j) k = true) : lookL (T (tm j)) k = none := by
  have hr := h.rep j hj
  have hok := h.ok j hj
  unfold missesB seesB at hs
  rw [hr] at hs
  unfold repOf at hs
  rcases hok with q | q | q
  · rw [if_neg (by omega)] at hs
    simp [q] at hs
  · rw [if_neg (by omega), if_neg (by omega), if_pos q] at hs
    simp [q] at hs
    rw [← hs.1]
    exact hs.2
  · rw [if_pos q, if_pos q, if_neg (by omega), if_neg (by omega)] at hs
    cases hl : lookL (T (tm j)) k with
    | none => rfl
    | some v =>
      have := (lookL_iff (T (tm j)) k).2 (by rw [hl]; simp)
      simp at hs this
      obtain ⟨b, hb⟩ := this
      exact absurd hb (hs b)
/-- what must come ahead does so by the moments of effect -/
theorem CallsOk.ahead (h : CallsOk cs tm N T) {i j : Nat} (hi : i < cs.length) (hj : j < cs.length) (hij : i ≠ j) (ha : aheadB (ca cs i) (ca cs j) = true) : tm i < tm j := by
  have hli := h.lt i hi
  have hlj := h.lt j hj
  have hne : tm i ≠ tm j := fun e => hij (h.inj i j hi hj e)
  unfold aheadB at ha
  simp only [Bool.or_eq_true, Bool.and_eq_true, decide_eq_true_eq] at ha
  rcases ha with (q | ⟨q1, q2⟩) | ⟨q1, q2⟩
  · exact h.clock i j hi hj q
  · unfold madeB at q1
    simp only [Bool.and_eq_true, decide_eq_true_eq] at q1
    obtain ⟨v, hv⟩ := h.sees hj _ q2
    have hm : Makes cs i (ca cs i).f2.f1 (ca cs i).f2.f2 := ⟨q1.1, q1.2, rfl, rfl⟩
    have h0 := h.makes_none hi hm
    rcases Nat.lt_or_ge (tm i) (tm j) with q | q
    · exact q
    · have := h.mono hv (tm i - tm j) (by omega)
      rw [show tm j + (tm i - tm j) = tm i by omega, h0] at this
      cases this
  · unfold madeB at q1
    simp only [Bool.and_eq_true, decide_eq_true_eq] at q1
    have h0 := h.misses hi _ q2
    have hm : Makes cs j (ca cs j).f2.f1 (ca cs j).f2.f2 := ⟨q1.1, q1.2, rfl, rfl⟩
    rcases Nat.lt_or_ge (tm i) (tm j) with q | q
    · exact q
    · have := h.makes_some hj hm (t := tm i) (by omega) (by omega)
      rw [h0] at this
      cases this
theorem made_of {j : Nat} {k : Int} {v : ByteArray} (hm : Makes cs j k v) : madeB (ca cs j) = true ∧ (ca cs j).f2.f1 = k := ⟨by unfold madeB; simp [hm.1, hm.2.1], hm.2.2.1⟩
/-- the calls that were taken (D), and the plain map's table (LD) -/
structure Taken (cs : List PCall) (D : Nat → Bool) (LD : List (Int × ByteArray)) : Prop where
  closed : ∀ j, j < cs.length → D j = true → ∀ i, i < cs.length → i ≠ j → aheadB (ca cs i) (ca cs j) = true → D i = true
  rising : (LD.map (·.1)).Pairwise (· < ·)
  look : ∀ k v, lookL LD k = some v ↔ ∃ j, j < cs.length ∧ D j = true ∧ Makes cs j k v
theorem rising_pairs : ∀ {L M : List (Int × ByteArray)}, (L.map (·.1)).Pairwise (· < ·) → (M.map (·.1)).Pairwise (· < ·) → (∀ k, lookL L k = lookL M k) → L = M
  | L, M, hL, hM, h => by
    have hk : L.map (·.1) = M.map (·.1) := rising_ext hL hM fun x => by rw [lookL_iff, lookL_iff, h x]
    have hv : ∀ (i : Nat) (x : Int × ByteArray), L[i]? = some x → M[i]? = some x := fun i x hx => by
      have h1 : (L.map (·.1))[i]? = some x.1 := by rw [List.getElem?_map, hx]; rfl
      rw [hk, List.getElem?_map, Option.map_eq_some_iff] at h1
      obtain ⟨y, hy, hxy⟩ := h1
      have e1 := lookL_mem hL x (List.mem_of_getElem? hx)
      have e2 := lookL_mem hM y (List.mem_of_getElem? hy)
      rw [hxy, ← h x.1, e1] at e2
      rw [hy]
      congr 1
      exact Prod.ext hxy (Option.some.inj e2).symm
    have hl : L.length = M.length := by simpa using congrArg List.length hk
    refine List.ext_getElem? fun i => ?_
    cases q : L[i]? with
    | none => exact (List.getElem?_eq_none (by rw [← hl]; exact List.getElem?_eq_none_iff.1 q)).symm
    | some x => exact (hv i x q).symm
theorem Taken.step (hc : CallsOk cs tm N T) {D : Nat → Bool} {LD : List (Int × ByteArray)} (h : Taken cs D LD) {j : Nat} (hj : j < cs.length) (hD : D j = false) (hw : ∀ i, i < cs.length → D i = false → i ≠ j → aheadB (ca cs i) (ca cs j) = false) :
    repOf LD (ca cs j).f2 = (ca cs j).f3 ∧ Taken cs (fun i => if i = j then true else D i) (tabOf LD (ca cs j).f2) := by
  have hN := hc.lt j hj
  have hahead : ∀ i, i < cs.length → i ≠ j → aheadB (ca cs i) (ca cs j) = true → D i = true := fun i hi hij ha => by
    cases q : D i with
    | true => rfl
    | false => rw [hw i hi q hij] at ha; cases ha
  have hnot : ∀ i, i < cs.length → D i = true → i ≠ j → aheadB (ca cs j) (ca cs i) = true → False := fun i hi hDi hij ha => by
    have := h.closed i hi hDi j hj (Ne.symm hij) ha
    rw [hD] at this
    cases this
  have hDne : ∀ i, D i = true → i ≠ j := fun i hDi e => by rw [e, hD] at hDi; cases hDi
  -- seen keys are there; missed keys are not
  have hsee : ∀ k, seesB (ca cs j) k = true → lookL LD k = lookL (T (tm j)) k := fun k hs => by
    obtain ⟨v, hv⟩ := hc.sees hj k hs
    obtain ⟨i, hi, hti, hm⟩ := hc.maker (tm j) (by omega) hv
    have hij : i ≠ j := fun e => by rw [e] at hti; omega
    obtain ⟨m1, m2⟩ := made_of hm
    have hDi := hahead i hi hij (by unfold aheadB; rw [m1, m2, hs]; simp)
    rw [hv]
    exact (h.look k v).2 ⟨i, hi, hDi, hm⟩
  have hmiss : ∀ k, missesB (ca cs j) k = true → lookL LD k = lookL (T (tm j)) k := fun k hs => by
    rw [hc.misses hj k hs]
    cases q : lookL LD k with
    | none => rfl
    | some v =>
      obtain ⟨i, hi, hDi, hm⟩ := (h.look k v).1 q
      obtain ⟨m1, m2⟩ := made_of hm
      exact (hnot i hi hDi (hDne i hDi) (by unfold aheadB; rw [m1, m2, hs]; simp)).elim
  have hmake : ∀ v, Makes cs j (ca cs j).f2.f1 v → lookL LD (ca cs j).f2.f1 = none := fun v hm => by
    cases q : lookL LD (ca cs j).f2.f1 with
    | none => rfl
    | some u =>
      obtain ⟨i, hi, hDi, hm'⟩ := (h.look _ u).1 q
      have hij := hDne i hDi
      have hli := hc.lt i hi
      rcases Nat.lt_trichotomy (tm i) (tm j) with q2 | q2 | q2
      · have := hc.makes_some hi hm' q2 (by omega)
        rw [hc.makes_none hj hm] at this
        cases this
      · exact absurd (hc.inj i j hi hj q2) hij
      · have := hc.makes_some hj hm q2 (by omega)
        rw [hc.makes_none hi hm'] at this
        cases this
  have hrep := hc.rep j hj
  have hcl : ∀ a, a < cs.length → (if a = j then true else D a) = true → ∀ i, i < cs.length → i ≠ a → aheadB (ca cs i) (ca cs a) = true → (if i = j then true else D i) = true := fun a ha hDa i hi hia haa => by
    by_cases e : i = j
    · rw [if_pos e]
    · rw [if_neg e]
      by_cases e2 : a = j
      · subst e2
        exact hahead i hi hia haa
      · rw [if_neg e2] at hDa
        exact h.closed a ha hDa i hi hia haa
  have hlook : (∀ v, (Makes cs j (ca cs j).f2.f1 v → v = (ca cs j).f2.f2)) := fun v hm => hm.2.2.2.symm
  have hsame : ∀ {P : Prop}, ((ca cs j).f2.f0 = 1 ∧ lookL LD (ca cs j).f2.f1 = none ↔ P) → (P ↔ (ca cs j).f2.f0 = 1 ∧ (ca cs j).f3.f0 = true) → Taken cs (fun i => if i = j then true else D i) (tabOf LD (ca cs j).f2) := fun {P} hp hp2 => by
    refine ⟨hcl, tab_rising h.rising, fun k v => ?_⟩
    rw [lookL_tab]
    by_cases q : (ca cs j).f2.f0 = 1 ∧ lookL LD (ca cs j).f2.f1 = none ∧ k = (ca cs j).f2.f1
    · have hmk := hp2.1 (hp.1 ⟨q.1, q.2.1⟩)
      rw [if_pos q]
      constructor
      · intro e
        exact ⟨j, hj, by simp, hmk.1, hmk.2, q.2.2.symm, Option.some.inj e⟩
      · rintro ⟨i, hi, hDi, hm⟩
        by_cases e : i = j
        · subst e
          rw [hm.2.2.2]
        · rw [if_neg e] at hDi
          have := (h.look k v).2 ⟨i, hi, hDi, hm⟩
          rw [q.2.2, q.2.1] at this
          cases this
    · rw [if_neg q, h.look k v]
      constructor
      · rintro ⟨i, hi, hDi, hm⟩
        exact ⟨i, hi, by simp [hDi], hm⟩
      · rintro ⟨i, hi, hDi, hm⟩
        by_cases e : i = j
        · subst e
          have h2 := hp.2 (hp2.2 ⟨hm.1, hm.2.1⟩)
          exact absurd ⟨h2.1, h2.2, hm.2.2.1.symm⟩ q
        · rw [if_neg e] at hDi
          exact ⟨i, hi, hDi, hm⟩
  rcases hc.ok j hj with q | q | q
  · -- Publish
    have hr1 : (ca cs j).f3.f0 = (lookL (T (tm j)) (ca cs j).f2.f1).isNone := by rw [hrep]; unfold repOf; rw [if_pos q]
    have heq : lookL LD (ca cs j).f2.f1 = none ↔ (ca cs j).f3.f0 = true := by
      cases hb : (ca cs j).f3.f0 with
      | true => exact ⟨fun _ => rfl, fun _ => hmake _ ⟨q, hb, rfl, rfl⟩⟩
      | false =>
        have hs : seesB (ca cs j) (ca cs j).f2.f1 = true := by unfold seesB; rw [if_neg (by omega)]; simp [q, hb]
        rw [hsee _ hs]
        rw [hb] at hr1
        constructor
        · intro e; rw [e] at hr1; simp at hr1
        · intro e; cases e
    refine ⟨?_, hsame (P := (ca cs j).f2.f0 = 1 ∧ (ca cs j).f3.f0 = true) ⟨fun e => ⟨e.1, heq.1 e.2⟩, fun e => ⟨e.1, heq.2 e.2⟩⟩ Iff.rfl⟩
    have h1 : (lookL LD (ca cs j).f2.f1).isNone = (ca cs j).f3.f0 := by
      cases hb : (ca cs j).f3.f0 with
      | true => rw [heq.2 hb]; rfl
      | false =>
        cases hl : lookL LD (ca cs j).f2.f1 with
        | none => have := heq.1 hl; rw [hb] at this; cases this
        | some v => rfl
    unfold repOf
    rw [if_pos q, h1, hr1]
    conv => rhs; rw [hrep]
    unfold repOf
    rw [if_pos q]
  · -- Lookup
    have hsm : lookL LD (ca cs j).f2.f1 = lookL (T (tm j)) (ca cs j).f2.f1 := by
      cases hb : (ca cs j).f3.f0 with
      | true => exact hsee _ (by unfold seesB; rw [if_neg (by omega)]; simp [q, hb])
      | false => exact hmiss _ (by unfold missesB; rw [if_neg (by omega)]; simp [q, hb])
    refine ⟨?_, hsame (P := False) ⟨fun e => by have := e.1; omega, fun e => e.elim⟩ ⟨fun e => e.elim, fun e => by have := e.1; omega⟩⟩
    conv => rhs; rw [hrep]
    unfold repOf
    rw [if_neg (by omega), if_pos q, if_neg (by omega), if_pos q, hsm]
  · -- Snapshot
    have hall : ∀ k, lookL LD k = lookL (T (tm j)) k := fun k => by
      cases hs : seesB (ca cs j) k with
      | true => exact hsee k hs
      | false => exact hmiss k (by unfold missesB; rw [if_pos q, hs]; rfl)
    have hLT := rising_pairs h.rising (hc.rising (tm j) (by omega)) hall
    refine ⟨?_, hsame (P := False) ⟨fun e => by have := e.1; omega, fun e => e.elim⟩ ⟨fun e => e.elim, fun e => by have := e.1; omega⟩⟩
    conv => rhs; rw [hrep]
    rw [hLT]
theorem Taken.start (cs : List PCall) : Taken cs (fun _ => false) [] := ⟨(fun j _ h => by cases h), List.Pairwise.nil, fun k v => ⟨(fun h => by cases h), (fun ⟨j, _, h, _⟩ => by cases h)⟩⟩
/-! #### how many must come ahead -/
def waitN (cs : List PCall) (D : Nat → Bool) (i n : Nat) : Nat := ((List.range n).filter fun k => !D k && (decide (k ≠ i) && aheadB (ca cs k) (ca cs i))).length
/-- one can be taken -/
theorem CallsOk.next (hc : CallsOk cs tm N T) (D : Nat → Bool) (hex : ∃ j, j < cs.length ∧ D j = false) : ∃ j, j < cs.length ∧ D j = false ∧ waitN cs D j cs.length = 0 := by
  have key : ∀ b j, j < cs.length → D j = false → tm j ≤ b → ∃ j, j < cs.length ∧ D j = false ∧ waitN cs D j cs.length = 0 := by
    intro b
    induction b with
    | zero =>
      intro j hj hD hb
      refine ⟨j, hj, hD, ?_⟩
      unfold waitN
      rw [List.length_eq_zero_iff, List.filter_eq_nil_iff]
      intro k hk hk2
      simp only [Bool.and_eq_true, Bool.not_eq_true', decide_eq_true_eq] at hk2
      have := hc.ahead (List.mem_range.1 hk) hj hk2.2.1 hk2.2.2
      omega
    | succ b ih =>
      intro j hj hD hb
      by_cases q : waitN cs D j cs.length = 0
      · exact ⟨j, hj, hD, q⟩
      · unfold waitN at q
        obtain ⟨k, hk⟩ := List.exists_mem_of_length_pos (Nat.pos_of_ne_zero q)
        obtain ⟨h1, h2⟩ := List.mem_filter.1 hk
        simp only [Bool.and_eq_true, Bool.not_eq_true', decide_eq_true_eq] at h2
        have := hc.ahead (List.mem_range.1 h1) hj h2.2.1 h2.2.2
        exact ih k (List.mem_range.1 h1) h2.1 (by omega)
  obtain ⟨j, hj, hD⟩ := hex
  exact key (tm j) j hj hD (Nat.le_refl _)
end
end Go.Proofs.Ytihjpbalkjhjbaa
namespace Go.Proofs.Ytihjpbalkjhjbaa
open Go.RowKit Go.MapKept Go.MuLone Go.Shelf Go.Proofs.YtihjpbalkjhjbaaW.PrintWords Go.Proofs.YtihjpbalkjhjbaaW.PrintLast Go.Proofs.YtihjpbalkjhjbaaW.PrintMore Go.Proofs.Ytihjpbalkjhjbaa.PTableEnds
/-- the marks, in a row of their own; all that was there is as it was -/
structure MarksIs (w wr : World) (ab k : Nat) (a : Nat → Nat) : Prop where
  row : wr.ownsRow w.heap.size 3 1 (.slice (some ⟨ab, 0, none⟩) k k) k (rowA k a)
  below : Below w.heap.size w wr
theorem MarksIs.cell {w wr : World} {ab k : Nat} {a : Nat → Nat} (h : MarksIs w wr ab k a) {n : Nat} (hn : n < k) : wr.cell? ⟨ab, n, none⟩ = some (.int .i64 ((a n : Nat) : Int)) ∧ wr.frozen? ⟨ab, n, none⟩ = false ∧ ab < wr.heap.size := by
  obtain ⟨g, he, h1, h2, _⟩ := own_at h.row (rowA_get hn)
  cases he
  exact ⟨h1, h2, (h.row.lt ab rfl).2⟩
theorem MarksIs.set {w wr : World} {ab k : Nat} {a : Nat → Nat} (h : MarksIs w wr ab k a) (n x : Nat) : MarksIs w (wr.setCell ⟨ab, n, none⟩ (.int .i64 ((x : Nat) : Int))) ab k fun i => if i = n then x else a i :=
  ⟨by rw [← rowA_set]; exact own_set h.row n _, below_set h.below (h.row.lt ab rfl).1 _ _⟩
theorem MarksIs.drewN {w wr : World} {ab k : Nat} {a : Nat → Nat} (h : MarksIs w wr ab k a) (n : Nat) : MarksIs w (wr.drewN n) ab k a := ⟨row_fresh h.row ((Only.refl _ _).drewN n), pw_below_drewN h.below n⟩
theorem MarksIs.congr {w wr : World} {ab k : Nat} {a a' : Nat → Nat} (h : MarksIs w wr ab k a) (e : ∀ i, a i = a' i) : MarksIs w wr ab k a' := by rw [show a' = a from funext fun i => (e i).symm]; exact h
abbrev callV (c : PCall) (A7 : Option Addr) (c7 : Nat) (A8 : Option Addr) (c8 : Nat) : Value :=
  .agg #[.int .i64 c.f0, .int .i64 c.f1, .int .i64 c.f2.f0, .int .i64 c.f2.f1, .string c.f2.f2, .bool c.f3.f0, .string c.f3.f1, .slice A7 c.f3.f2.length c7, .slice A8 c.f3.f3.length c8]
/-- a reply's lists, read -/
structure RepIn (w : World) (r : PRep) (A7 : Option Addr) (c7 : Nat) (A8 : Option Addr) (c8 : Nat) : Prop where
  l7 : r.f2.length ≤ c7
  g7 : (Kd.int .i64).C w A7 r.f2.length r.f2
  l8 : r.f3.length ≤ c8
  g8 : Kd.string.C w A8 r.f3.length r.f3
theorem RepIn.below {w w1 : World} {r : PRep} {A7 : Option Addr} {c7 : Nat} {A8 : Option Addr} {c8 : Nat} (h : RepIn w r A7 c7 A8 c8) (hb : Below w.heap.size w w1) : RepIn w1 r A7 c7 A8 c8 := ⟨h.l7, Kd.C_below h.g7 hb, h.l8, Kd.C_below h.g8 hb⟩
/-! #### EqReply -/
theorem eqints_same (l : List Int) (hl : l.length ≤ 9223372036854775807) : ∀ (k i : Nat), i ≤ l.length → l.length < k + i → fugueref00_EqInts.l0 k l l (i : Nat) = some true := by
  intro k
  induction k with
  | zero => intro i h1 h2; omega
  | succ k ih =>
    intro i h1 h2
    unfold fugueref00_EqInts.l0
    by_cases hi : i < l.length
    · have hw : wrap64 ((i : Int) + 1) = ((i + 1 : Nat) : Int) := by unfold wrap64; omega
      rw [if_pos (by omega), if_pos (by omega), if_pos (by omega), if_pos rfl, hw]
      exact ih (i + 1) (by omega) (by omega)
    · rw [if_neg (by omega)]
theorem eqstrs_same (l : List ByteArray) (hl : l.length ≤ 9223372036854775807) : ∀ (k i : Nat), i ≤ l.length → l.length < k + i → fugueref00_EqStrings.l0 k l l (i : Nat) = some true := by
  intro k
  induction k with
  | zero => intro i h1 h2; omega
  | succ k ih =>
    intro i h1 h2
    unfold fugueref00_EqStrings.l0
    by_cases hi : i < l.length
    · have hw : wrap64 ((i : Int) + 1) = ((i + 1 : Nat) : Int) := by unfold wrap64; omega
      rw [if_pos (by omega), if_pos (by omega), if_pos (by omega), if_pos rfl, hw]
      exact ih (i + 1) (by omega) (by omega)
    · rw [if_neg (by omega)]
abbrev repV (r : PRep) (A7 : Option Addr) (c7 : Nat) (A8 : Option Addr) (c8 : Nat) : Value := .agg #[.bool r.f0, .string r.f1, .slice A7 r.f2.length c7, .slice A8 r.f3.length c8]
theorem eqreply_calls (w : World) (r : PRep) {A7 : Option Addr} {c7 : Nat} {A8 : Option Addr} {c8 : Nat} (ha : RepIn w r A7 c7 A8 c8) {B7 : Option Addr} {d7 : Nat} {B8 : Option Addr} {d8 : Nat} (hb : RepIn w r B7 d7 B8 d8) :
    Calls Try.prog 29 #[repV r A7 c7 A8 c8, repV r B7 d7 B8 d8] w fun e w' => e = .returned (.bool true) ∧ Below w.heap.size w w' := by
  refine fugueref00_EqReply.calls (r.f2.length + r.f3.length + 1) r.f0 r.f1 A7 c7 r.f2 A8 c8 r.f3 r.f0 r.f1 B7 d7 r.f2 B8 d8 r.f3 true w ha.g7 ha.l7 ha.g8 ha.l8 hb.g7 hb.l7 hb.g8 hb.l8 ?_
  have e1 : fugueref00_EqInts.f (r.f2.length + r.f3.length + 1) r.f2 r.f2 = some true := by
    unfold fugueref00_EqInts.f
    rw [if_pos rfl]
    exact eqints_same r.f2 ha.g7.2.1 _ 0 (Nat.zero_le _) (by omega)
  have e2 : fugueref00_EqStrings.f (r.f2.length + r.f3.length + 1) r.f3 r.f3 = some true := by
    unfold fugueref00_EqStrings.f
    rw [if_pos rfl]
    exact eqstrs_same r.f3 ha.g8.2.1 _ 0 (Nat.zero_le _) (by omega)
  unfold fugueref00_EqReply.f
  rw [if_pos (beq_self_eq_true _), if_pos rfl, e1, Option.bind_some, if_pos rfl, e2]
  first | rfl | simp
/-! #### some -/
def someP (l0 : List (List POp)) (i : Nat) : List (List POp) := (l0.take i).map fun l => l.take (400 / l0.length + 1)
theorem C_take {w : World} {A : Option Addr} {l : List POp} (h : k23.C w A l.length l) (m : Nat) (hm : m ≤ l.length) : k23.C w A (l.take m).length (l.take m) := by
  have hl : (l.take m).length = m := by rw [List.length_take]; omega
  refine ⟨rfl, by have := h.2.1; omega, fun h0 => ?_⟩
  obtain ⟨ad, e, hc⟩ := h.2.2 (by omega)
  exact ⟨ad, e, fun j p hp => hc j p (by rw [List.getElem?_take] at hp; split at hp <;> first | exact hp | cases hp)⟩
/-- the rows so far: what they hold lies in memory that was there before -/
abbrev SomeRow (w wr : World) (v : Value) (xs : List (List POp)) : Prop := OwnRow ((Kd.slice 23 k23).K w) 41 1 wr w.heap.size v xs
end Go.Proofs.Ytihjpbalkjhjbaa
namespace Go.Proofs.Ytihjpbalkjhjbaa
open Go.RowKit Go.MapKept Go.Proofs.YtihjpbalkjhjbaaW.PrintWords Go.Proofs.YtihjpbalkjhjbaaW.PrintLast Go.Proofs.YtihjpbalkjhjbaaW.PrintMore Go.Proofs.Ytihjpbalkjhjbaa.PTableEnds
theorem place_one {K : List Int} {key : Int} {a b : Nat} (h : AtPlace K key a) (k : AtPlace K key b) : a = b := by
  rcases Nat.lt_trichotomy a b with q | q | q
  · have h1 := k.low a q
    have h2 := h.high a (Nat.le_refl _) (by have := k.le; omega)
    omega
  · exact q
  · have h1 := h.low b q
    have h2 := k.high b (Nat.le_refl _) (by have := h.le; omega)
    omega
theorem place_ex {K : List Int} (hr : Rising K) (key : Int) : ∃ lo, AtPlace K key lo := by
  have : ∀ n, n ≤ K.length → (∀ j, n ≤ j → j < K.length → key ≤ K.getD j 0) → ∃ lo, AtPlace K key lo := by
    intro n
    induction n with
    | zero => intro h1 h2; exact ⟨0, h1, fun j q => by omega, h2⟩
    | succ n ih =>
      intro h1 h2
      by_cases q : K.getD n 0 < key
      · refine ⟨n + 1, h1, fun j hj => ?_, h2⟩
        rcases Nat.lt_or_ge j n with k | k
        · have := hr j n k (by omega); omega
        · obtain rfl : j = n := by omega
          exact q
      · exact ih (by omega) fun j a b => by
          rcases Nat.eq_or_lt_of_le a with k | k
          · subst k; omega
          · exact h2 j k b
  exact this K.length (Nat.le_refl _) fun j a b => by omega
theorem rising_holed {K : List Int} {key : Int} {lo : Nat} (hr : Rising K) (h : AtPlace K key lo) (hf : foundB K key lo = false) : Rising (holed K lo key) := by
  have hat : ∀ i, i ≤ K.length → (holed K lo key).getD i 0 = if i < lo then K.getD i 0 else if i = lo then key else K.getD (i - 1) 0 := fun i hi => by
    unfold holed
    simp only [List.getD_eq_getElem?_getD]
    have hle := h.le
    by_cases q : i < lo
    · rw [if_pos q, List.getElem?_append_left (by simp; omega), List.getElem?_take, if_pos q]
    · rw [if_neg q, List.getElem?_append_right (by simp; omega), List.length_take, Nat.min_eq_left hle]
      by_cases q2 : i = lo
      · rw [if_pos q2, q2, Nat.sub_self]
        rfl
      · rw [if_neg q2, show i - lo = (i - 1 - lo) + 1 by omega, List.getElem?_cons_succ, List.getElem?_drop, show lo + (i - 1 - lo) = i - 1 by omega]
  have hhi : ∀ j, lo ≤ j → j < K.length → key < K.getD j 0 := fun j a b => by
    have h1 := h.high j a b
    rcases Nat.eq_or_lt_of_le a with q | q
    · subst q
      unfold foundB at hf
      rw [decide_eq_true b, Bool.true_and] at hf
      have := of_decide_eq_false hf
      omega
    · have h2 := h.high lo (Nat.le_refl _) (by omega)
      have h3 := hr lo j q b
      omega
  intro i j hij hj
  have hle := h.le
  rw [holed_len hle] at hj
  rw [hat i (by omega), hat j (by omega)]
  by_cases a : i < lo
  · rw [if_pos a]
    have hi := h.low i a
    by_cases b : j < lo
    · rw [if_pos b]; exact hr i j hij (by omega)
    · rw [if_neg b]
      by_cases c : j = lo
      · rw [if_pos c]; exact hi
      · rw [if_neg c]
        have := hhi (j - 1) (by omega) (by omega)
        omega
  · rw [if_neg a, if_neg (show ¬ j < lo by omega), if_neg (show ¬ j = lo by omega)]
    by_cases b : i = lo
    · rw [if_pos b]; exact hhi (j - 1) (by omega) (by omega)
    · rw [if_neg b]; exact hr (i - 1) (j - 1) (by omega) (by omega)
/-- what a call of the plain map does -/
def DoIs (K : List Int) (V : List ByteArray) (o : S23) (K' : List Int) (V' : List ByteArray) (r : S50) : Prop :=
  if o.f0 = 1 then ∃ lo, AtPlace K o.f1 lo ∧ if foundB K o.f1 lo = true then K' = K ∧ V' = V ∧ r = z50 else K' = holed K lo o.f1 ∧ V' = holed V lo o.f2 ∧ r = ⟨true, ⟨#[]⟩, [], []⟩
  else if o.f0 = 2 then ∃ lo, AtPlace K o.f1 lo ∧ K' = K ∧ V' = V ∧ r = if foundB K o.f1 lo = true then ⟨true, V.getD lo ⟨#[]⟩, [], []⟩ else z50
  else K' = K ∧ V' = V ∧ r = ⟨true, ⟨#[]⟩, K, V⟩
def DoneBy (w : World) (t base : Nat) (K : List Int) (V : List ByteArray) (vk vv : Value) (o : S23) (e : Ending) (w' : World) : Prop :=
  ∃ K' V' vk' vv' r A2 c2 A3 c3, DoIs K V o K' V' r ∧ e = .returned (.agg #[.bool r.f0, .string r.f1, .slice A2 r.f2.length c2, .slice A3 r.f3.length c3]) ∧ r.f2.length ≤ c2 ∧ (Kd.int .i64).C w' A2 r.f2.length r.f2 ∧
    r.f3.length ≤ c3 ∧ Kd.string.C w' A3 r.f3.length r.f3 ∧ RTab w' t base K' V' vk' vv' ∧ Rising K' ∧ Only w w' (TabS t vk vv) ∧ ∀ b, TabS t vk' vv' b → TabS t vk vv b ∨ w.heap.size ≤ b
theorem set4 {w : World} {q : Nat} {x y z u : Value} {t : TypeId} (hb : w.heap[q]? = some (.cells #[x, y, z, u] t (0, 0))) (a b c d : Value) :
    ((((w.setCell ⟨q, 0, none⟩ a).setCell ⟨q, 1, none⟩ b).setCell ⟨q, 2, none⟩ c).setCell ⟨q, 3, none⟩ d).heap[q]? = some (.cells #[a, b, c, d] t (0, 0)) := by
  have h1 := blk_set hb 0 a
  have h2 := blk_set h1 1 b
  have h3 := blk_set h2 2 c
  exact blk_set h3 3 d
theorem RTab.only {W W1 : World} {t base : Nat} {K : List Int} {V : List ByteArray} {vk vv : Value} (h : RTab W t base K V vk vv) {S : Nat → Prop} (ho : Only W W1 S) (hs : ∀ b, S b → ¬ TabS t vk vv b) : RTab W1 t base K V vk vv :=
  ⟨(ho.block t (blk_lt h.blk) fun q => hs t q (.inl rfl)).trans h.blk, row_move h.keys fun g e => ho.block g (own_lt h.keys e) fun q => hs g q (.inr (.inl e)), row_move h.vals fun g e => ho.block g (own_lt h.vals e) fun q => hs g q (.inr (.inr e)), h.out, h.apart, h.len, h.small⟩
theorem RTab.lt {W : World} {t base : Nat} {K : List Int} {V : List ByteArray} {vk vv : Value} (h : RTab W t base K V vk vv) {b : Nat} (hb : TabS t vk vv b) : b < W.heap.size := by
  rcases hb with rfl | hb | hb
  · exact blk_lt h.blk
  · exact own_lt h.keys hb
  · exact own_lt h.vals hb
theorem RRaw.tab {W : World} {t base : Nat} {K : List Int} {V : List ByteArray} {vk vv : Value} (h : RRaw W t base K V vk vv) (hl : K.length = V.length) (hs : K.length ≤ 1099511627776) : RTab W t base K V vk vv := ⟨h.blk, h.keys, h.vals, h.out, h.apart, hl, hs⟩
/-- behind the four stores of a reply -/
def stored4 (w : World) (q : Nat) (a b c d : Value) : World := (((w.setCell ⟨q, 0, none⟩ a).setCell ⟨q, 1, none⟩ b).setCell ⟨q, 2, none⟩ c).setCell ⟨q, 3, none⟩ d
theorem stored4_only (w : World) (q : Nat) (a b c d : Value) : Only w (stored4 w q a b c d) (fun x => x = q) :=
  ((((Only.refl w fun x => x = q).setCell (p := ⟨q, 0, none⟩) (.inl rfl) a).setCell (p := ⟨q, 1, none⟩) (.inl rfl) b).setCell (p := ⟨q, 2, none⟩) (.inl rfl) c).setCell (p := ⟨q, 3, none⟩) (.inl rfl) d
theorem done_mk {w w1 : World} {t base q : Nat} {K : List Int} {V : List ByteArray} {vk vv : Value} {o : S23} {K' : List Int} {V' : List ByteArray} {vk' vv' : Value} {r : S50} {A2 : Option Addr} {c2 : Nat} {A3 : Option Addr} {c3 : Nat} (a b c d : Value)
    (hd : DoIs K V o K' V' r) (l2 : r.f2.length ≤ c2) (g2 : (Kd.int .i64).C (stored4 w1 q a b c d) A2 r.f2.length r.f2) (l3 : r.f3.length ≤ c3) (g3 : Kd.string.C (stored4 w1 q a b c d) A3 r.f3.length r.f3)
    (ht : RTab w1 t base K' V' vk' vv') (hr : Rising K') (ho : Only w w1 (TabS t vk vv)) (hq : w.heap.size ≤ q) (hqt : ¬ TabS t vk' vv' q) (hnw : ∀ b, TabS t vk' vv' b → TabS t vk vv b ∨ w.heap.size ≤ b) :
    DoneBy w t base K V vk vv o (.returned (.agg #[.bool r.f0, .string r.f1, .slice A2 r.f2.length c2, .slice A3 r.f3.length c3])) (stored4 w1 q a b c d) :=
  ⟨K', V', vk', vv', r, A2, c2, A3, c3, hd, rfl, l2, g2, l3, g3, ht.only (stored4_only w1 q a b c d) (fun b e => by subst e; exact hqt), hr, ho.trans (stored4_only w1 q a b c d) fun b e => .inr (by subst e; exact hq), hnw⟩
def PubIs (K : List Int) (V : List ByteArray) (key : Int) (val : ByteArray) (lo : Nat) (K' : List Int) (V' : List ByteArray) : Prop :=
  AtPlace K key lo ∧ if foundB K key lo = true then K' = K ∧ V' = V else K' = holed K lo key ∧ V' = holed V lo val
theorem rpub_any {w : World} {t base : Nat} {K : List Int} {V : List ByteArray} {vk vv : Value} (h : RTab w t base K V vk vv) (hr : Rising K) (hsm : K.length < 1099511627776) (hbs : base ≤ w.heap.size) (key : Int) (val : ByteArray) :
    Calls Try.prog 52 #[.pointer (some ⟨t, 0, none⟩), .int .i64 key, .string val] w fun e w' => ∃ K' V' vk' vv' lo, PubIs K V key val lo K' V' ∧ e = .returned (.bool (!foundB K key lo)) ∧ RTab w' t base K' V' vk' vv' ∧ Rising K' ∧ Only w w' (TabS t vk vv) ∧
      ∀ b, TabS t vk' vv' b → TabS t vk vv b ∨ w.heap.size ≤ b := by
  obtain ⟨lo, hlo⟩ := place_ex hr key
  have hno : ∀ l, AtPlace K key l → foundB K key l = foundB K key lo := fun l hl => by rw [place_one hl hlo]
  cases hf : foundB K key lo with
  | true =>
    refine (rpub_old h hr key val fun l hl => (hno l hl).trans hf).mono fun e w' ⟨he, n, hw⟩ => ?_
    subst hw
    exact ⟨K, V, vk, vv, lo, ⟨hlo, by rw [if_pos hf]; exact ⟨rfl, rfl⟩⟩, by rw [he, hf]; rfl, h.drew n, hr, (Only.refl _ _).drewN n, fun b q => .inl q⟩
  | false =>
    refine (rpub_new h hr hsm hbs key val fun l hl => (hno l hl).trans hf).mono fun e w' ⟨l, vk', vv', hl, he, hR, ho, hn⟩ => ?_
    obtain rfl := place_one hl hlo
    have hle := hl.le
    exact ⟨_, _, vk', vv', l, ⟨hl, by rw [if_neg (by rw [hf]; simp)]; exact ⟨rfl, rfl⟩⟩, by rw [he, hf]; rfl, hR.tab (by rw [holed_len hle, holed_len (by rw [← h.len]; exact hle), h.len]) (by rw [holed_len hle]; omega), rising_holed hr hl hf, ho, hn⟩
set_option maxRecDepth 100000 in
set_option maxHeartbeats 2000000 in
theorem rdo_pub {w : World} {t base : Nat} {K : List Int} {V : List ByteArray} {vk vv : Value} (h : RTab w t base K V vk vv) (hr : Rising K) (hsm : K.length < 1099511627776) (hbs : base ≤ w.heap.size) (o : S23) (ho : o.f0 = 1) :
    Calls Try.prog 28 #[.pointer (some ⟨t, 0, none⟩), .agg #[.int .i64 o.f0, .int .i64 o.f1, .string o.f2]] w fun e w' => DoneBy w t base K V vk vv o e w' := by
  have hu := Try.underlying23
  have hu2 := Try.underlying50
  have h2 : RTab ((w.alloc (.cells #[.int .i64 1, .int .i64 o.f1, .string o.f2] 23)).alloc (.cells #[.bool false, .string ⟨#[]⟩, .slice none 0 0, .slice none 0 0] 50)) t base K V vk vv := (h.below (below_alloc (Below.refl _ _) _)).below (below_alloc (Below.refl _ _) _)
  have hbl : Below w.heap.size w ((w.alloc (.cells #[.int .i64 1, .int .i64 o.f1, .string o.f2] 23)).alloc (.cells #[.bool false, .string ⟨#[]⟩, .slice none 0 0, .slice none 0 0] 50)) := below_alloc (below_alloc (Below.refl _ _) _) _
  have hq := blk_new (w.alloc (.cells #[.int .i64 1, .int .i64 o.f1, .string o.f2] 23)) (.cells #[.bool false, .string ⟨#[]⟩, .slice none 0 0, .slice none 0 0] 50)
  simp only [World.size_alloc] at hq
  have hc := rpub_any h2 hr hsm (by simp; omega) o.f1 o.f2
  have H := Lib.hid (And.intro h (And.intro hbl (And.intro hq ho)))
  rw [ho]
  clear h hr hbs h2 hbl hq hsm ho
  go_enter Try.func28, Try.ntmps28
  go_wp2_with fail
  refine hc.mono ?_
  rintro e w1 ⟨K', V', vk', vv', lo, hp, rfl, ht, hr', hO, hnew⟩
  have hq1 := hO.blk H.out.2.2.1 (fun q => by have := H.out.1.lt q; omega)
  have y0 := blk_cell hq1 (i := 0) rfl
  have y1 := blk_cell hq1 (i := 1) rfl
  have y2 := blk_cell hq1 (i := 2) rfl
  have y3 := blk_cell hq1 (i := 3) rfl
  have fz := blk_frozen hq1
  have HP := Lib.hid (And.intro hp (And.intro ht (And.intro hr' (And.intro hO (And.intro hnew hq1)))))
  clear hp ht hr' hO hnew hq1 hc
  obtain ⟨b, hb⟩ : ∃ b, b = !foundB K o.f1 lo := ⟨_, rfl⟩
  rw [← hb]
  have HB := Lib.hid hb
  clear hb
  go_wp2_with fail
  have hres := set4 HP.out.2.2.2.2.2 (.bool b) (.string ⟨#[]⟩) (.slice none 0 0) (.slice none 0 0)
  refine bodyPost_ret (results_cell_row rfl _ _ (w.heap.size + 1) 50 #[.bool b, .string ⟨#[]⟩, .slice none 0 0, .slice none 0 0] (0, 0) _ rfl hres Try.underlying50 rfl (by kernel_rfl)) rfl ?_
  have hfin := done_mk (w := w) (w1 := w1) (t := t) (base := base) (q := w.heap.size + 1) (K := K) (V := V) (vk := vk) (vv := vv) (o := o) (r := ⟨b, ⟨#[]⟩, [], []⟩) (A2 := none) (c2 := 0) (A3 := none) (c3 := 0) (.bool b) (.string ⟨#[]⟩) (.slice none 0 0) (.slice none 0 0)
    (K' := K') (V' := V') (by
      unfold DoIs
      rw [if_pos H.out.2.2.2]
      refine ⟨lo, HP.out.1.1, ?_⟩
      have := HP.out.1.2
      split
      · rename_i hf
        rw [if_pos hf] at this
        exact ⟨this.1, this.2, by rw [HB.out, hf]; rfl⟩
      · rename_i hf
        rw [if_neg hf] at this
        exact ⟨this.1, this.2, by rw [HB.out, Bool.not_eq_true _ |>.mp hf]; rfl⟩)
    (Nat.le_refl _) (Kd.C_nil _ _) (Nat.le_refl _) (Kd.C_nil _ _) HP.out.2.1 HP.out.2.2.1 ((Only.of_below (S := TabS t vk vv) H.out.2.1 fun b h1 h2 => by omega).trans' HP.out.2.2.2.1) (by omega) (fun q => by
      rcases HP.out.2.2.2.2.1 _ q with k | k
      · have := H.out.1.lt k; omega
      · simp at k; omega) (fun q hq => by
      rcases HP.out.2.2.2.2.1 _ hq with k | k
      · exact .inl k
      · simp at k; exact .inr (by omega))
  exact hfin
theorem rlook_any {w : World} {t base : Nat} {K : List Int} {V : List ByteArray} {vk vv : Value} (h : RTab w t base K V vk vv) (hr : Rising K) (key : Int) :
    Calls Try.prog 53 #[.pointer (some ⟨t, 0, none⟩), .int .i64 key] w fun e w' => ∃ (lo : Nat) (v : ByteArray), AtPlace K key lo ∧ v = (if foundB K key lo = true then V.getD lo ⟨#[]⟩ else ⟨#[]⟩) ∧ e = .returned (.tuple #[.string v, .bool (foundB K key lo)]) ∧ ∃ n, w' = w.drewN n := by
  obtain ⟨lo, hlo⟩ := place_ex hr key
  have hno : ∀ l, AtPlace K key l → foundB K key l = foundB K key lo := fun l hl => by rw [place_one hl hlo]
  cases hf : foundB K key lo with
  | true =>
    refine (rlook_some h hr key fun l hl => (hno l hl).trans hf).mono fun e w' ⟨l, hl, he, hw⟩ => ?_
    obtain rfl := place_one hl hlo
    exact ⟨l, _, hl, by rw [if_pos hf], by rw [he, hf], hw⟩
  | false =>
    refine (rlook_none h hr key fun l hl => (hno l hl).trans hf).mono fun e w' ⟨he, hw⟩ => ?_
    exact ⟨lo, _, hlo, by rw [if_neg (by rw [hf]; simp)], by rw [he, hf], hw⟩
theorem DoneBy.of {w w1 : World} {t base q : Nat} {K : List Int} {V : List ByteArray} {vk vv : Value} {o : S23} {r : S50} {A2 : Option Addr} {c2 : Nat} {A3 : Option Addr} {c3 : Nat} (a b c d : Value) (hd : DoIs K V o K V r) (h : RTab w t base K V vk vv) (hr : Rising K) (hb : Below w.heap.size w w1) (hq : w.heap.size ≤ q)
    (l2 : r.f2.length ≤ c2) (g2 : (Kd.int .i64).C (stored4 w1 q a b c d) A2 r.f2.length r.f2) (l3 : r.f3.length ≤ c3) (g3 : Kd.string.C (stored4 w1 q a b c d) A3 r.f3.length r.f3) :
    DoneBy w t base K V vk vv o (.returned (.agg #[.bool r.f0, .string r.f1, .slice A2 r.f2.length c2, .slice A3 r.f3.length c3])) (stored4 w1 q a b c d) :=
  done_mk a b c d hd l2 g2 l3 g3 (h.below hb) hr (Only.of_below (S := TabS t vk vv) hb fun b h1 h2 => by omega) hq (fun k => by have := h.lt k; omega) fun b q => .inl q
set_option maxRecDepth 100000 in
set_option maxHeartbeats 2000000 in
theorem rdo_look {w : World} {t base : Nat} {K : List Int} {V : List ByteArray} {vk vv : Value} (h : RTab w t base K V vk vv) (hr : Rising K) (o : S23) (ho : o.f0 = 2) :
    Calls Try.prog 28 #[.pointer (some ⟨t, 0, none⟩), .agg #[.int .i64 o.f0, .int .i64 o.f1, .string o.f2]] w fun e w' => DoneBy w t base K V vk vv o e w' := by
  have hu := Try.underlying23
  have hu2 := Try.underlying50
  have h2 : RTab ((w.alloc (.cells #[.int .i64 2, .int .i64 o.f1, .string o.f2] 23)).alloc (.cells #[.bool false, .string ⟨#[]⟩, .slice none 0 0, .slice none 0 0] 50)) t base K V vk vv := (h.below (below_alloc (Below.refl _ _) _)).below (below_alloc (Below.refl _ _) _)
  have hbl : Below w.heap.size w ((w.alloc (.cells #[.int .i64 2, .int .i64 o.f1, .string o.f2] 23)).alloc (.cells #[.bool false, .string ⟨#[]⟩, .slice none 0 0, .slice none 0 0] 50)) := below_alloc (below_alloc (Below.refl _ _) _) _
  have hq := blk_new (w.alloc (.cells #[.int .i64 2, .int .i64 o.f1, .string o.f2] 23)) (.cells #[.bool false, .string ⟨#[]⟩, .slice none 0 0, .slice none 0 0] 50)
  simp only [World.size_alloc] at hq
  have hc := rlook_any h2 hr o.f1
  have H := Lib.hid (And.intro h (And.intro hbl (And.intro hq (And.intro ho hr))))
  rw [ho]
  clear h hr h2 hbl hq ho
  go_enter Try.func28, Try.ntmps28
  go_wp2_with fail
  refine hc.mono ?_
  rintro e w1 ⟨lo, v, hlo, hv, rfl, hn⟩
  have hb1 : Below w.heap.size w w1 := by obtain ⟨n, rfl⟩ := hn; exact pw_below_drewN H.out.2.1 _
  have hq1 : w1.heap[w.heap.size + 1]? = some (.cells #[.bool false, .string ⟨#[]⟩, .slice none 0 0, .slice none 0 0] 50 (0, 0)) := by obtain ⟨n, rfl⟩ := hn; exact H.out.2.2.1
  have y0 := blk_cell hq1 (i := 0) rfl
  have y1 := blk_cell hq1 (i := 1) rfl
  have y2 := blk_cell hq1 (i := 2) rfl
  have y3 := blk_cell hq1 (i := 3) rfl
  have fz := blk_frozen hq1
  obtain ⟨b, hb⟩ : ∃ b, b = foundB K o.f1 lo := ⟨_, rfl⟩
  rw [← hb] at hv ⊢
  have HP := Lib.hid (And.intro hlo (And.intro hv (And.intro hb1 (And.intro hq1 hb))))
  clear hlo hv hb1 hq1 hb hc hn
  go_wp2_with fail
  have hres := set4 HP.out.2.2.2.1 (.bool b) (.string v) (.slice none 0 0) (.slice none 0 0)
  refine bodyPost_ret (results_cell_row rfl _ _ (w.heap.size + 1) 50 #[.bool b, .string v, .slice none 0 0, .slice none 0 0] (0, 0) _ rfl hres Try.underlying50 rfl (by kernel_rfl)) rfl ?_
  have hfin := DoneBy.of (w := w) (w1 := w1) (q := w.heap.size + 1) (o := o) (r := ⟨b, v, [], []⟩) (A2 := none) (c2 := 0) (A3 := none) (c3 := 0) (.bool b) (.string v) (.slice none 0 0) (.slice none 0 0) (K := K) (V := V)
    (by
      unfold DoIs
      rw [if_neg (by rw [H.out.2.2.2.1]; omega), if_pos H.out.2.2.2.1]
      refine ⟨lo, HP.out.1, rfl, rfl, ?_⟩
      rw [← HP.out.2.2.2.2, HP.out.2.1]
      cases b
      · rfl
      · rfl) H.out.1 H.out.2.2.2.2 HP.out.2.2.1 (by omega) (Nat.le_refl _) (Kd.C_nil _ _) (Nat.le_refl _) (Kd.C_nil _ _)
  exact hfin
set_option maxRecDepth 100000 in
set_option maxHeartbeats 2000000 in
theorem rdo_snap {w : World} {t base : Nat} {K : List Int} {V : List ByteArray} {vk vv : Value} (h : RTab w t base K V vk vv) (hr : Rising K) (o : S23) (h1 : o.f0 ≠ 1) (hk2 : o.f0 ≠ 2) :
    Calls Try.prog 28 #[.pointer (some ⟨t, 0, none⟩), .agg #[.int .i64 o.f0, .int .i64 o.f1, .string o.f2]] w fun e w' => DoneBy w t base K V vk vv o e w' := by
  have hu := Try.underlying23
  have hu2 := Try.underlying50
  have h2 : RTab ((w.alloc (.cells #[.int .i64 o.f0, .int .i64 o.f1, .string o.f2] 23)).alloc (.cells #[.bool false, .string ⟨#[]⟩, .slice none 0 0, .slice none 0 0] 50)) t base K V vk vv := (h.below (below_alloc (Below.refl _ _) _)).below (below_alloc (Below.refl _ _) _)
  have hbl : Below w.heap.size w ((w.alloc (.cells #[.int .i64 o.f0, .int .i64 o.f1, .string o.f2] 23)).alloc (.cells #[.bool false, .string ⟨#[]⟩, .slice none 0 0, .slice none 0 0] 50)) := below_alloc (below_alloc (Below.refl _ _) _) _
  have hq := blk_new (w.alloc (.cells #[.int .i64 o.f0, .int .i64 o.f1, .string o.f2] 23)) (.cells #[.bool false, .string ⟨#[]⟩, .slice none 0 0, .slice none 0 0] 50)
  simp only [World.size_alloc] at hq
  have hc := rsnap h2
  have e1 : (o.f0 == 1) = false := beq_eq_false_iff_ne.mpr h1
  have e2 : (o.f0 == 2) = false := beq_eq_false_iff_ne.mpr hk2
  have H := Lib.hid (And.intro h (And.intro hbl (And.intro hq (And.intro h1 (And.intro hk2 hr)))))
  clear h hr h2 hbl hq h1 hk2
  go_enter Try.func28, Try.ntmps28
  go_wp2_with fail
  refine hc.mono ?_
  rintro e w1 ⟨v2, v3, rfl, hcp⟩
  obtain ⟨k2, k3, hb⟩ := hcp
  obtain ⟨A2, c2, rfl⟩ := own_slice k2
  obtain ⟨A3, c3, rfl⟩ := own_slice k3
  have hb1 : Below w.heap.size w w1 := below_step H.out.2.1 hb
  have hq1 := blk_below H.out.2.2.1 hb
  have y0 := blk_cell hq1 (i := 0) rfl
  have y1 := blk_cell hq1 (i := 1) rfl
  have y2 := blk_cell hq1 (i := 2) rfl
  have y3 := blk_cell hq1 (i := 3) rfl
  have fz := blk_frozen hq1
  have HP := Lib.hid (And.intro k2 (And.intro k3 (And.intro hb1 hq1)))
  clear k2 k3 hb1 hq1 hc hb
  go_wp2_with fail
  have hres := set4 HP.out.2.2.2 (.bool true) (.string ⟨#[]⟩) (.slice A2 K.length c2) (.slice A3 V.length c3)
  refine bodyPost_ret (results_cell_row rfl _ _ (w.heap.size + 1) 50 #[.bool true, .string ⟨#[]⟩, .slice A2 K.length c2, .slice A3 V.length c3] (0, 0) _ rfl hres Try.underlying50 rfl (by kernel_rfl)) rfl ?_
  have hr2 := own_reads1 (h1 := fun _ => rfl) (row_move (W1 := stored4 w1 (w.heap.size + 1) (.bool true) (.string ⟨#[]⟩) (.slice A2 K.length c2) (.slice A3 V.length c3)) HP.out.1 fun g e => (stored4_only w1 _ _ _ _ _).block g (own_lt HP.out.1 e) (fun q => by have := (HP.out.1.lt g e).1; simp at this; omega))
  have hr3 := own_reads1 (h1 := fun _ => rfl) (row_move (W1 := stored4 w1 (w.heap.size + 1) (.bool true) (.string ⟨#[]⟩) (.slice A2 K.length c2) (.slice A3 V.length c3)) HP.out.2.1 fun g e => (stored4_only w1 _ _ _ _ _).block g (own_lt HP.out.2.1 e) (fun q => by have := (HP.out.2.1.lt g e).1; simp at this; omega))
  have hfin := DoneBy.of (w := w) (w1 := w1) (q := w.heap.size + 1) (o := o) (r := ⟨true, ⟨#[]⟩, K, V⟩) (A2 := A2) (c2 := c2) (A3 := A3) (c3 := c3) (.bool true) (.string ⟨#[]⟩) (.slice A2 K.length c2) (.slice A3 V.length c3) (K := K) (V := V)
    (by
      unfold DoIs
      rw [if_neg H.out.2.2.2.1, if_neg H.out.2.2.2.2.1]
      exact ⟨rfl, rfl, rfl⟩) H.out.1 H.out.2.2.2.2.2 HP.out.2.2.1 (by omega) hr2.2 hr2.1 hr3.2 hr3.1
  exact hfin
theorem rdo {w : World} {t base : Nat} {K : List Int} {V : List ByteArray} {vk vv : Value} (h : RTab w t base K V vk vv) (hr : Rising K) (hsm : K.length < 1099511627776) (hbs : base ≤ w.heap.size) (o : S23) :
    Calls Try.prog 28 #[.pointer (some ⟨t, 0, none⟩), .agg #[.int .i64 o.f0, .int .i64 o.f1, .string o.f2]] w fun e w' => DoneBy w t base K V vk vv o e w' := by
  by_cases h1 : o.f0 = 1
  · exact rdo_pub h hr hsm hbs o h1
  · by_cases h2 : o.f0 = 2
    · exact rdo_look h hr o h2
    · exact rdo_snap h hr o h1 h2
end Go.Proofs.Ytihjpbalkjhjbaa
namespace Go.Proofs.Ytihjpbalkjhjbaa
open Go.RowKit Go.MapKept Go.MuLone Go.Shelf Go.Proofs.YtihjpbalkjhjbaaW.PrintWords Go.Proofs.YtihjpbalkjhjbaaW.PrintLast Go.Proofs.YtihjpbalkjhjbaaW.PrintMore Go.Proofs.Ytihjpbalkjhjbaa.PTableEnds
abbrev keysL (L : List (Int × ByteArray)) : List Int := L.map (·.1)
abbrev valsL (L : List (Int × ByteArray)) : List ByteArray := L.map (·.2)
theorem rising_of {L : List (Int × ByteArray)} (h : (L.map (·.1)).Pairwise (· < ·)) : Rising (keysL L) := fun i j hij hj => by
  have hj' : j < (L.map (·.1)).length := hj
  have hi' : i < (L.map (·.1)).length := by omega
  have h1 := List.pairwise_iff_getElem.1 h i j hi' hj' hij
  rw [List.getD_eq_getElem?_getD, List.getD_eq_getElem?_getD, List.getElem?_eq_getElem hi', List.getElem?_eq_getElem hj']
  exact h1
theorem place_look (key : Int) (s : ByteArray) : ∀ (L : List (Int × ByteArray)) (lo : Nat), (L.map (·.1)).Pairwise (· < ·) → AtPlace (keysL L) key lo →
    (foundB (keysL L) key lo = true → lookL L key = some ((valsL L).getD lo ⟨#[]⟩)) ∧ (foundB (keysL L) key lo = false → lookL L key = none ∧ putL key s L = L.take lo ++ (key, s) :: L.drop lo)
  | [], lo, _, h => by
    have h0 : lo = 0 := by have := h.le; simpa using this
    subst h0
    exact ⟨fun q => by simp [foundB] at q, fun _ => ⟨rfl, rfl⟩⟩
  | x :: L, lo, hr, h => by
    have hr' := hr
    simp only [List.map_cons, List.pairwise_cons] at hr'
    match lo, h with
    | 0, h =>
      have hk : key ≤ x.1 := by
        have := h.high 0 (Nat.le_refl _) (by simp)
        simpa using this
      refine ⟨fun q => ?_, fun q => ?_⟩
      · have e : x.1 = key := by simpa [foundB] using q
        unfold lookL
        rw [List.find?_cons, show (x.1 == key) = true by simp [e]]
        rfl
      · have e : x.1 ≠ key := by simpa [foundB] using q
        have hlt : key < x.1 := by omega
        refine ⟨?_, ?_⟩
        · cases hl : lookL (x :: L) key with
          | none => rfl
          | some v =>
            have hm := (lookL_iff (x :: L) key).2 (by rw [hl]; simp)
            rcases List.mem_cons.1 hm with q2 | q2
            · exact absurd q2.symm e
            · have := hr'.1 key q2
              omega
        · unfold putL
          rw [if_pos hlt]
          rfl
    | m + 1, h =>
      have hx : x.1 < key := by
        have := h.low 0 (by omega)
        simpa using this
      have h' : AtPlace (keysL L) key m := by
        refine ⟨by have := h.le; simpa using this, fun j hj => ?_, fun j h1 h2 => ?_⟩
        · have := h.low (j + 1) (by omega)
          simpa using this
        · have := h.high (j + 1) (by omega) (by simpa using h2)
          simpa using this
      have hf : foundB (keysL (x :: L)) key (m + 1) = foundB (keysL L) key m := by
        unfold foundB
        simp
      have hl : lookL (x :: L) key = lookL L key := by
        unfold lookL
        rw [List.find?_cons, show (x.1 == key) = false by simp; omega]
      obtain ⟨k1, k2⟩ := place_look key s L m hr'.2 h'
      rw [hf, hl]
      refine ⟨fun q => ?_, fun q => ⟨(k2 q).1, ?_⟩⟩
      · rw [k1 q]
        simp
      · unfold putL
        rw [if_neg (by omega), (k2 q).2]
        rfl
theorem do_pairs {L : List (Int × ByteArray)} {o : POp} {K' : List Int} {V' : List ByteArray} {r : PRep} (hr : (L.map (·.1)).Pairwise (· < ·)) (hok : OpOk o) (h : DoIs (keysL L) (valsL L) o K' V' r) : K' = keysL (tabOf L o) ∧ V' = valsL (tabOf L o) ∧ r = repOf L o := by
  unfold DoIs at h
  unfold tabOf repOf
  rcases hok with q | q | q
  · rw [if_pos q] at h
    obtain ⟨lo, hlo, h⟩ := h
    obtain ⟨k1, k2⟩ := place_look o.f1 o.f2 L lo hr hlo
    rw [if_pos q]
    by_cases hf : foundB (keysL L) o.f1 lo = true
    · rw [if_pos hf] at h
      obtain ⟨rfl, rfl, rfl⟩ := h
      rw [if_neg (by rw [k1 hf]; simp), k1 hf]
      exact ⟨rfl, rfl, rfl⟩
    · have hf' : foundB (keysL L) o.f1 lo = false := by simpa using hf
      rw [if_neg hf] at h
      obtain ⟨rfl, rfl, rfl⟩ := h
      obtain ⟨k3, k4⟩ := k2 hf'
      rw [if_pos ⟨q, by rw [k3]; rfl⟩, k4, k3]
      refine ⟨?_, ?_, rfl⟩
      · unfold holed keysL
        rw [List.map_append, List.map_cons, List.map_take, List.map_drop]
      · unfold holed valsL
        rw [List.map_append, List.map_cons, List.map_take, List.map_drop]
  · rw [if_neg (by omega), if_pos q] at h
    obtain ⟨lo, hlo, rfl, rfl, rfl⟩ := h
    obtain ⟨k1, k2⟩ := place_look o.f1 o.f2 L lo hr hlo
    rw [if_neg (show ¬ (o.f0 = 1 ∧ (lookL L o.f1).isNone = true) from fun e => by have := e.1; omega)]
    refine ⟨rfl, rfl, ?_⟩
    rw [if_neg (show ¬ o.f0 = 1 by omega), if_pos q]
    by_cases hf : foundB (keysL L) o.f1 lo = true
    · rw [if_pos hf, k1 hf]
      rfl
    · have hf' : foundB (keysL L) o.f1 lo = false := by simpa using hf
      rw [if_neg hf, (k2 hf').1]
      rfl
  · rw [if_neg (by omega), if_neg (by omega)] at h
    obtain ⟨rfl, rfl, rfl⟩ := h
    rw [if_neg (show ¬ (o.f0 = 1 ∧ (lookL L o.f1).isNone = true) from fun e => by have := e.1; omega), if_neg (show ¬ o.f0 = 1 by omega), if_neg (show ¬ o.f0 = 2 by omega)]
    exact ⟨rfl, rfl, rfl⟩
/-- what Do leaves, over a list of pairs -/
def DoPost (w w' : World) (t base : Nat) (L : List (Int × ByteArray)) (vk vv : Value) (o : POp) (e : Ending) : Prop :=
  ∃ vk' vv' A2 c2 A3 c3, e = .returned (repV (repOf L o) A2 c2 A3 c3) ∧ RepIn w' (repOf L o) A2 c2 A3 c3 ∧ RTab w' t base (keysL (tabOf L o)) (valsL (tabOf L o)) vk' vv' ∧ Only w w' (TabS t vk vv)
/-! #### the waits -/
def wv (cs : List PCall) (D : Nat → Bool) (i : Nat) : Int := if D i = true then -1 else (waitN cs D i cs.length : Nat)
def rowI (k : Nat) (a : Nat → Int) : List Value := (List.range k).map fun n => .int .i64 (a n)
/-- in the course of taking call p -/
def wm (cs : List PCall) (D : Nat → Bool) (p i k : Nat) : Int := if k < i then wv cs (fun q => if q = p then true else D q) k else if k = p then -1 else wv cs D k
def countD (D : Nat → Bool) (n : Nat) : Nat := ((List.range n).filter D).length
/-! #### the play's calls -/
theorem tpub_any {w : World} {tb : Nat} {lab : TLab} {L : List (Int × ByteArray)} (h : TabAt w tb lab (lookL L)) (o : POp) (ho : o.f0 = 1) :
    Calls Try.prog 10 #[.pointer (some ⟨tb, 0, none⟩), .int .i64 o.f1, .string o.f2] w fun e w' => e = .returned (.bool (repOf L o).f0) ∧ ∃ lab', TabAt w' tb lab' (lookL (tabOf L o)) ∧ TExt w w' lab lab' := by
  cases hk : lookL L o.f1 with
  | some s =>
    refine (tpublish_old h o.f1 o.f2 s hk).mono fun e w' ⟨he, ht, hx⟩ => ⟨by rw [he]; simp [repOf, ho, hk], lab, ?_, hx⟩
    have : tabOf L o = L := by simp [tabOf, hk]
    rw [this]; exact ht
  | none =>
    refine (tpublish_new h o.f1 o.f2 hk).mono fun e w' ⟨he, lab', ht, hx⟩ => ⟨by rw [he]; simp [repOf, ho, hk], lab', ?_, hx⟩
    have : (fun j => if j = o.f1 then some o.f2 else lookL L j) = lookL (tabOf L o) := by
      funext j
      rw [lookL_tab]
      by_cases hj : j = o.f1 <;> simp [hj, ho, hk]
    rw [← this]; exact ht
theorem tlook_any {w : World} {tb : Nat} {lab : TLab} {L : List (Int × ByteArray)} (h : TabAt w tb lab (lookL L)) (k : Int) :
    Calls Try.prog 8 #[.pointer (some ⟨tb, 0, none⟩), .int .i64 k] w fun e w' => e = .returned (.tuple #[.string ((lookL L k).getD ⟨#[]⟩), .bool (lookL L k).isSome]) ∧ TabAt w' tb lab (lookL L) ∧ TExt w w' lab lab := by
  cases hk : lookL L k with
  | some s => exact (tlookup_some h k s hk).mono fun e w' ⟨he, h1, h2⟩ => ⟨he, h1, h2⟩
  | none => exact (tlookup_none h k hk).mono fun e w' ⟨he, h1, h2⟩ => ⟨he, h1, h2⟩
/-- what does leaves: its lists lie in rows of their own, made since -/
def DoesPost (w w' : World) (tb : Nat) (lab : TLab) (L : List (Int × ByteArray)) (o : POp) (e : Ending) : Prop :=
  ∃ A2 c2 A3 c3 lab', e = .returned (repV (repOf L o) A2 c2 A3 c3) ∧ KRow w w' (.slice A2 (repOf L o).f2.length c2) (repOf L o).f2 ∧ SRow w w' (.slice A3 (repOf L o).f3.length c3) (repOf L o).f3 ∧
    TabAt w' tb lab' (lookL (tabOf L o)) ∧ TExt w w' lab lab' ∧ ∀ b, lab' b ≠ none → (A2.map Addr.block ≠ some b ∧ A3.map Addr.block ≠ some b)
theorem nil_row (w : World) (base : Nat) (e : TypeId) (xs : List Value) (hx : xs = []) : w.ownsRow base e 1 (.slice none 0 0) 0 xs := by
  subst hx
  exact ⟨rfl, .inl ⟨rfl, rfl⟩⟩
set_option maxRecDepth 100000 in
set_option maxHeartbeats 2000000 in
theorem does_pub {w : World} {tb : Nat} {lab : TLab} {L : List (Int × ByteArray)} (h : TabAt w tb lab (lookL L)) (o : POp) (ho : o.f0 = 1) :
    Calls Try.prog 32 #[.pointer (some ⟨tb, 0, none⟩), .agg #[.int .i64 o.f0, .int .i64 o.f1, .string o.f2]] w fun e w' => DoesPost w w' tb lab L o e := by
  have hu := Try.underlying23
  have hu2 := Try.underlying50
  obtain ⟨W2, hW2⟩ : ∃ W2, W2 = (w.alloc (.cells #[.int .i64 1, .int .i64 o.f1, .string o.f2] 23)).alloc (.cells #[.bool false, .string ⟨#[]⟩, .slice none 0 0, .slice none 0 0] 50) := ⟨_, rfl⟩
  have hf2 : Fresh w W2 := by rw [hW2]; exact ((Only.refl _ _).alloc _).alloc _
  have h2 : TabAt W2 tb lab (lookL L) := h.only hf2 fun _ _ q => q
  have hq := blk_new (w.alloc (.cells #[.int .i64 1, .int .i64 o.f1, .string o.f2] 23)) (.cells #[.bool false, .string ⟨#[]⟩, .slice none 0 0, .slice none 0 0] 50)
  rw [← hW2] at hq
  have hs2 : W2.heap.size = w.heap.size + 2 := by rw [hW2]; simp
  simp only [World.size_alloc] at hq
  have hold : ∀ b, lab b ≠ none → b < w.heap.size := by obtain ⟨bm, f, cs, q⟩ := h; exact q.old
  have htb : tb < w.heap.size := by obtain ⟨bm, f, cs, q⟩ := h; exact blk_lt q.self
  have hc := tpub_any h2 o ho
  have H := Lib.hid (And.intro hf2 (And.intro hs2 (And.intro hold (And.intro hq ho))))
  rw [hW2] at hc
  rw [ho]
  have HW := Lib.hid hW2
  clear h h2 hq hf2 hs2 hold ho hW2
  go_enter Try.func32, Try.ntmps32
  go_wp2_with fail
  refine hc.mono ?_
  rintro e w1 ⟨rfl, lab', ht, hx⟩
  rw [← HW.out] at hx
  have hqn : ∀ b, lab' b ≠ none → b ≠ w.heap.size + 1 := fun b hb e => by
    have hs := H.out.2.1
    rcases hx.new b hb with q | q
    · have := H.out.2.2.1 b q; omega
    · omega
  have hq1 := hx.only.blk H.out.2.2.2.1 (fun q => by have := H.out.2.2.1 _ q; omega)
  have y0 := blk_cell hq1 (i := 0) rfl
  have y1 := blk_cell hq1 (i := 1) rfl
  have y2 := blk_cell hq1 (i := 2) rfl
  have y3 := blk_cell hq1 (i := 3) rfl
  have fz := blk_frozen hq1
  have HP := Lib.hid (And.intro ht (And.intro hx (And.intro hqn hq1)))
  clear ht hx hqn hq1 hc
  obtain ⟨b, hb⟩ : ∃ b, b = (repOf L o).f0 := ⟨_, rfl⟩
  rw [← hb]
  have HB := Lib.hid hb
  clear hb
  go_wp2_with fail
  have hres := set4 HP.out.2.2.2 (.bool b) (.string ⟨#[]⟩) (.slice none 0 0) (.slice none 0 0)
  refine bodyPost_ret (results_cell_row rfl _ _ (w.heap.size + 1) 50 #[.bool b, .string ⟨#[]⟩, .slice none 0 0, .slice none 0 0] (0, 0) _ rfl hres Try.underlying50 rfl (by kernel_rfl)) rfl ?_
  have hst := stored4_only w1 (w.heap.size + 1) (.bool b) (.string ⟨#[]⟩) (.slice none 0 0) (.slice none 0 0)
  obtain ⟨ht, hx, hqn, hq1⟩ := HP.out
  have hrep : repOf L o = ⟨b, ⟨#[]⟩, [], []⟩ := by rw [HB.out]; simp [repOf, H.out.2.2.2.2]
  refine ⟨none, 0, none, 0, lab', by rw [hrep]; rfl, by rw [hrep]; exact nil_row _ _ _ _ rfl, by rw [hrep]; exact nil_row _ _ _ _ rfl, ht.only hst fun b hb q => hqn b hb q, ?_, fun b hb => ⟨by simp, by simp⟩⟩
  have hxo : Only w w1 fun b => lab b ≠ none := (H.out.1.mono (S' := fun b => lab b ≠ none) fun b _ q => q.elim).trans' hx.only
  exact ⟨hxo.trans hst fun b hb => .inr (by subst hb; omega), hx.keep, fun b hb => (hx.new b hb).imp id fun q => by have := H.out.2.1; omega⟩
/-- two blocks made for the call and its answer -/
theorem two_new {w W2 : World} {tb : Nat} {lab : TLab} {T : Int → Option ByteArray} (h : TabAt w tb lab T) (a b : Obj) (hW2 : W2 = (w.alloc a).alloc b) :
    Fresh w W2 ∧ TabAt W2 tb lab T ∧ W2.heap[w.heap.size + 1]? = some b ∧ W2.heap.size = w.heap.size + 2 ∧ (∀ b, lab b ≠ none → b < w.heap.size) ∧ tb < w.heap.size := by
  have hf2 : Fresh w W2 := by rw [hW2]; exact ((Only.refl _ _).alloc _).alloc _
  have hq := blk_new (w.alloc a) b
  rw [← hW2] at hq
  simp only [World.size_alloc] at hq
  exact ⟨hf2, h.only hf2 fun _ _ q => q, hq, by rw [hW2]; simp, by obtain ⟨bm, f, cs, q⟩ := h; exact q.old, by obtain ⟨bm, f, cs, q⟩ := h; exact blk_lt q.self⟩
set_option maxRecDepth 100000 in
set_option maxHeartbeats 2000000 in
theorem does_look {w : World} {tb : Nat} {lab : TLab} {L : List (Int × ByteArray)} (h : TabAt w tb lab (lookL L)) (o : POp) (ho : o.f0 = 2) :
    Calls Try.prog 32 #[.pointer (some ⟨tb, 0, none⟩), .agg #[.int .i64 o.f0, .int .i64 o.f1, .string o.f2]] w fun e w' => DoesPost w w' tb lab L o e := by
  have hu := Try.underlying23
  have hu2 := Try.underlying50
  obtain ⟨W2, hW2⟩ : ∃ W2, W2 = (w.alloc (.cells #[.int .i64 2, .int .i64 o.f1, .string o.f2] 23)).alloc (.cells #[.bool false, .string ⟨#[]⟩, .slice none 0 0, .slice none 0 0] 50) := ⟨_, rfl⟩
  obtain ⟨hf2, h2, hq, hs2, hold, htb⟩ := two_new h _ _ hW2
  have hc := tlook_any h2 o.f1
  have H := Lib.hid (And.intro hf2 (And.intro hs2 (And.intro hold (And.intro hq ho))))
  rw [hW2] at hc
  rw [ho]
  have HW := Lib.hid hW2
  clear h h2 hq hf2 hs2 hold ho hW2
  go_enter Try.func32, Try.ntmps32
  go_wp2_with fail
  refine hc.mono ?_
  rintro e w1 ⟨rfl, ht, hx⟩
  rw [← HW.out] at hx
  have hqn : ∀ b, lab b ≠ none → b ≠ w.heap.size + 1 := fun b hb e => by have := H.out.2.2.1 b hb; omega
  have hq1 := hx.only.blk H.out.2.2.2.1 (fun q => by have := H.out.2.2.1 _ q; omega)
  have y0 := blk_cell hq1 (i := 0) rfl
  have y1 := blk_cell hq1 (i := 1) rfl
  have y2 := blk_cell hq1 (i := 2) rfl
  have y3 := blk_cell hq1 (i := 3) rfl
  have fz := blk_frozen hq1
  have HP := Lib.hid (And.intro ht (And.intro hx (And.intro hqn hq1)))
  clear ht hx hqn hq1 hc
  obtain ⟨b, hb⟩ : ∃ b, b = (lookL L o.f1).isSome := ⟨_, rfl⟩
  obtain ⟨v, hv⟩ : ∃ v, v = (lookL L o.f1).getD ⟨#[]⟩ := ⟨_, rfl⟩
  rw [← hb, ← hv]
  have HB := Lib.hid (And.intro hb hv)
  clear hb hv
  go_wp2_with fail
  have hres := set4 HP.out.2.2.2 (.bool b) (.string v) (.slice none 0 0) (.slice none 0 0)
  refine bodyPost_ret (results_cell_row rfl _ _ (w.heap.size + 1) 50 #[.bool b, .string v, .slice none 0 0, .slice none 0 0] (0, 0) _ rfl hres Try.underlying50 rfl (by kernel_rfl)) rfl ?_
  have hst := stored4_only w1 (w.heap.size + 1) (.bool b) (.string v) (.slice none 0 0) (.slice none 0 0)
  obtain ⟨ht, hx, hqn, hq1⟩ := HP.out
  have hrep : repOf L o = ⟨b, v, [], []⟩ := by rw [HB.out.1, HB.out.2]; simp [repOf, H.out.2.2.2.2]
  have htab : tabOf L o = L := by simp [tabOf, H.out.2.2.2.2]
  refine ⟨none, 0, none, 0, lab, by rw [hrep]; rfl, by rw [hrep]; exact nil_row _ _ _ _ rfl, by rw [hrep]; exact nil_row _ _ _ _ rfl, by rw [htab]; exact ht.only hst fun b hb q => hqn b hb q, ?_, fun b hb => ⟨by simp, by simp⟩⟩
  have hxo : Only w w1 fun b => lab b ≠ none := (H.out.1.mono (S' := fun b => lab b ≠ none) fun b _ q => q.elim).trans' hx.only
  exact ⟨hxo.trans hst fun b hb => .inr (by subst hb; omega), fun _ _ => rfl, fun b hb => .inl hb⟩
set_option maxRecDepth 100000 in
set_option maxHeartbeats 2000000 in
theorem does_snap {w : World} {tb : Nat} {lab : TLab} {L : List (Int × ByteArray)} (h : TabAt w tb lab (lookL L)) (hr : (L.map (·.1)).Pairwise (· < ·)) (hlen : L.length ≤ 16777216) (o : POp) (h1 : o.f0 ≠ 1) (hk2 : o.f0 ≠ 2) :
    Calls Try.prog 32 #[.pointer (some ⟨tb, 0, none⟩), .agg #[.int .i64 o.f0, .int .i64 o.f1, .string o.f2]] w fun e w' => DoesPost w w' tb lab L o e := by
  have hu := Try.underlying23
  have hu2 := Try.underlying50
  obtain ⟨W2, hW2⟩ : ∃ W2, W2 = (w.alloc (.cells #[.int .i64 o.f0, .int .i64 o.f1, .string o.f2] 23)).alloc (.cells #[.bool false, .string ⟨#[]⟩, .slice none 0 0, .slice none 0 0] 50) := ⟨_, rfl⟩
  obtain ⟨hf2, h2, hq, hs2, hold, htb⟩ := two_new h _ _ hW2
  have hc := tsnapshot h2 L hr (lookL_iff L) (lookL_mem hr) hlen
  have e1 : (o.f0 == 1) = false := beq_eq_false_iff_ne.mpr h1
  have e2 : (o.f0 == 2) = false := beq_eq_false_iff_ne.mpr hk2
  have hlt : lab tb ≠ none := by obtain ⟨bm, f, cs, q⟩ := h; rw [q.lself]; simp
  have H := Lib.hid (And.intro hf2 (And.intro hs2 (And.intro hold (And.intro hq (And.intro h1 (And.intro hk2 hlt))))))
  rw [hW2] at hc
  have HW := Lib.hid hW2
  clear h h2 hq hf2 hs2 hold h1 hk2 hW2 hr hlen hlt
  go_enter Try.func32, Try.ntmps32
  go_wp2_with fail
  refine hc.mono ?_
  rintro e w1 ⟨v1, v2, rfl, k1, k2, ht, hx⟩
  rw [← HW.out] at hx k1 k2
  obtain ⟨A2, c2, rfl⟩ := own_slice k1
  obtain ⟨A3, c3, rfl⟩ := own_slice k2
  have hq1 := hx.blk H.out.2.2.2.1 (fun q => by omega)
  have y0 := blk_cell hq1 (i := 0) rfl
  have y1 := blk_cell hq1 (i := 1) rfl
  have y2 := blk_cell hq1 (i := 2) rfl
  have y3 := blk_cell hq1 (i := 3) rfl
  have fz := blk_frozen hq1
  have HP := Lib.hid (And.intro ht (And.intro hx (And.intro k1 (And.intro k2 hq1))))
  clear ht hx k1 k2 hq1 hc
  obtain ⟨n, hn⟩ : ∃ n, n = (L.map (·.1)).length := ⟨_, rfl⟩
  obtain ⟨m, hm⟩ : ∃ m, m = (L.map (·.2)).length := ⟨_, rfl⟩
  rw [← hn, ← hm]
  have HB := Lib.hid (And.intro hn hm)
  clear hn hm
  go_wp2_with fail
  have hres := set4 HP.out.2.2.2.2 (.bool true) (.string ⟨#[]⟩) (.slice A2 n c2) (.slice A3 m c3)
  refine bodyPost_ret (results_cell_row rfl _ _ (w.heap.size + 1) 50 #[.bool true, .string ⟨#[]⟩, .slice A2 n c2, .slice A3 m c3] (0, 0) _ rfl hres Try.underlying50 rfl (by kernel_rfl)) rfl ?_
  have hst := stored4_only w1 (w.heap.size + 1) (.bool true) (.string ⟨#[]⟩) (.slice A2 n c2) (.slice A3 m c3)
  obtain ⟨ht, hx, k1, k2, hq1⟩ := HP.out
  obtain ⟨hn, hm⟩ := HB.out
  obtain ⟨hf2, hs2, hold, hq, h1, hk2, hlt⟩ := H.out
  have hrep : repOf L o = ⟨true, ⟨#[]⟩, L.map (·.1), L.map (·.2)⟩ := by simp [repOf, h1, hk2]
  have htab : tabOf L o = L := by simp [tabOf, h1]
  have g1 := k1.lt
  have g2 := k2.lt
  have r1 : KRow w _ _ _ := rown_lower (hst.row k1 (by intro g hg e; have := (k1.lt g hg).1; omega)) (show w.heap.size ≤ W2.heap.size by omega)
  have r2 : SRow w _ _ _ := rown_lower (hst.row k2 (by intro g hg e; have := (k2.lt g hg).1; omega)) (show w.heap.size ≤ W2.heap.size by omega)
  refine ⟨A2, c2, A3, c3, lab, by rw [hrep, hn, hm], by rw [hrep]; exact r1, by rw [hrep]; exact r2, by rw [htab]; exact ht.only hst fun b hb q => by have := hold b hb; omega, ?_, fun b hb => ?_⟩
  · have hxo : Only w w1 fun b => lab b ≠ none := (hf2.mono (S' := fun b => lab b ≠ none) fun b _ q => q.elim).trans hx fun b hb => .inl (by subst hb; exact hlt)
    exact ⟨hxo.trans hst fun b hb => .inr (by subst hb; omega), fun _ _ => rfl, fun b hb => .inl hb⟩
  · have hb' := hold b hb
    constructor <;> intro e
    · have := (k1.lt b (by rw [own_map]; exact e)).1; omega
    · have := (k2.lt b (by rw [own_map]; exact e)).1; omega
theorem does_walk {w : World} {tb : Nat} {lab : TLab} {L : List (Int × ByteArray)} (h : TabAt w tb lab (lookL L)) (hr : (L.map (·.1)).Pairwise (· < ·)) (hlen : L.length ≤ 16777216) (o : POp) :
    Calls Try.prog 32 #[.pointer (some ⟨tb, 0, none⟩), .agg #[.int .i64 o.f0, .int .i64 o.f1, .string o.f2]] w fun e w' => DoesPost w w' tb lab L o e := by
  by_cases h1 : o.f0 = 1
  · exact does_pub h o h1
  · by_cases h2 : o.f0 = 2
    · exact does_look h o h2
    · exact does_snap h hr hlen o h1 h2
/-- the document's Snapshot: its lists lie in rows of their own, made since -/
def RSnapPost (w w' : World) (t base : Nat) (L : List (Int × ByteArray)) (vk vv : Value) (e : Ending) : Prop :=
  ∃ A2 c2 A3 c3, e = .returned (.agg #[.bool true, .string ⟨#[]⟩, .slice A2 L.length c2, .slice A3 L.length c3]) ∧ KRow w w' (.slice A2 L.length c2) (keysL L) ∧ SRow w w' (.slice A3 L.length c3) (valsL L) ∧ RTab w' t base (keysL L) (valsL L) vk vv ∧ Fresh w w'
set_option maxRecDepth 100000 in
set_option maxHeartbeats 2000000 in
theorem rdo_snaps {w : World} {t base : Nat} {L : List (Int × ByteArray)} {vk vv : Value} (h : RTab w t base (keysL L) (valsL L) vk vv) (hbs : base ≤ w.heap.size) (o : POp) (h1 : o.f0 ≠ 1) (hk2 : o.f0 ≠ 2) :
    Calls Try.prog 28 #[.pointer (some ⟨t, 0, none⟩), .agg #[.int .i64 o.f0, .int .i64 o.f1, .string o.f2]] w fun e w' => RSnapPost w w' t base L vk vv e := by
  have hu := Try.underlying23
  have hu2 := Try.underlying50
  have h2 : RTab ((w.alloc (.cells #[.int .i64 o.f0, .int .i64 o.f1, .string o.f2] 23)).alloc (.cells #[.bool false, .string ⟨#[]⟩, .slice none 0 0, .slice none 0 0] 50)) t base (keysL L) (valsL L) vk vv := (h.below (below_alloc (Below.refl _ _) _)).below (below_alloc (Below.refl _ _) _)
  have hbl : Below w.heap.size w ((w.alloc (.cells #[.int .i64 o.f0, .int .i64 o.f1, .string o.f2] 23)).alloc (.cells #[.bool false, .string ⟨#[]⟩, .slice none 0 0, .slice none 0 0] 50)) := below_alloc (below_alloc (Below.refl _ _) _) _
  have hq := blk_new (w.alloc (.cells #[.int .i64 o.f0, .int .i64 o.f1, .string o.f2] 23)) (.cells #[.bool false, .string ⟨#[]⟩, .slice none 0 0, .slice none 0 0] 50)
  simp only [World.size_alloc] at hq
  have hc := rsnap h2
  have e1 : (o.f0 == 1) = false := beq_eq_false_iff_ne.mpr h1
  have e2 : (o.f0 == 2) = false := beq_eq_false_iff_ne.mpr hk2
  have H := Lib.hid (And.intro h (And.intro hbl (And.intro hq (And.intro h1 (And.intro hk2 hbs)))))
  clear h h2 hbl hq h1 hk2 hbs
  go_enter Try.func28, Try.ntmps28
  go_wp2_with fail
  refine hc.mono ?_
  rintro e w1 ⟨v2, v3, rfl, hcp⟩
  obtain ⟨k2, k3, hb⟩ := hcp
  rw [show (keysL L).length = L.length by simp] at k2
  rw [show (valsL L).length = L.length by simp] at k3
  obtain ⟨A2, c2, rfl⟩ := own_slice k2
  obtain ⟨A3, c3, rfl⟩ := own_slice k3
  have hb1 : Below w.heap.size w w1 := below_step H.out.2.1 hb
  have hq1 := blk_below H.out.2.2.1 hb
  have y0 := blk_cell hq1 (i := 0) rfl
  have y1 := blk_cell hq1 (i := 1) rfl
  have y2 := blk_cell hq1 (i := 2) rfl
  have y3 := blk_cell hq1 (i := 3) rfl
  have fz := blk_frozen hq1
  have HP := Lib.hid (And.intro k2 (And.intro k3 (And.intro hb1 hq1)))
  clear k2 k3 hb1 hq1 hc hb
  go_wp2_with fail
  have hres := set4 HP.out.2.2.2 (.bool true) (.string ⟨#[]⟩) (.slice A2 L.length c2) (.slice A3 L.length c3)
  refine bodyPost_ret (results_cell_row rfl _ _ (w.heap.size + 1) 50 #[.bool true, .string ⟨#[]⟩, .slice A2 L.length c2, .slice A3 L.length c3] (0, 0) _ rfl hres Try.underlying50 rfl (by kernel_rfl)) rfl ?_
  have hst := stored4_only w1 (w.heap.size + 1) (.bool true) (.string ⟨#[]⟩) (.slice A2 L.length c2) (.slice A3 L.length c3)
  obtain ⟨k2, k3, hb1, hq1⟩ := HP.out
  obtain ⟨h, _, _, _, _, hbs⟩ := H.out
  have r1 : w1.ownsRow (w.heap.size + 2) 3 1 (.slice A2 L.length c2) L.length (intsV (keysL L)) := by simpa using k2
  have r2 : w1.ownsRow (w.heap.size + 2) 9 1 (.slice A3 L.length c3) L.length (strsV (valsL L)) := by simpa using k3
  have r3 := rown_lower (hst.row r1 (by intro g hg e; have := (r1.lt g hg).1; omega)) (show w.heap.size ≤ w.heap.size + 2 by omega)
  have r4 := rown_lower (hst.row r2 (by intro g hg e; have := (r2.lt g hg).1; omega)) (show w.heap.size ≤ w.heap.size + 2 by omega)
  have r5 : KRow w (stored4 w1 (w.heap.size + 1) (.bool true) (.string ⟨#[]⟩) (.slice A2 L.length c2) (.slice A3 L.length c3)) (.slice A2 L.length c2) (keysL L) := by simpa [KRow] using r3
  have r6 : SRow w (stored4 w1 (w.heap.size + 1) (.bool true) (.string ⟨#[]⟩) (.slice A2 L.length c2) (.slice A3 L.length c3)) (.slice A3 L.length c3) (valsL L) := by simpa [SRow] using r4
  have hf1 : Fresh w w1 := Only.of_below hb1 fun b h1 h2 => by omega
  refine ⟨A2, c2, A3, c3, rfl, r5, r6, (h.below hb1).only hst fun b hb q => ?_, hf1.trans hst fun b hb => .inr (by subst hb; omega)⟩
  · subst hb
    have := (h.lt q)
    omega
end Go.Proofs.Ytihjpbalkjhjbaa
namespace Go.Proofs.Ytihjpbalkjhjbaa
open Go.RowKit Go.MapKept Go.MuLone Go.Shelf
/-- rows of one's own, of one kind of cell, apart from one another -/
structure Fam (e : TypeId) (w : World) (base n : Nat) (v : Nat → Value) (xs : Nat → List Value) : Prop where
  own : ∀ k, k < n → w.ownsRow base e 1 (v k) (xs k).length (xs k)
  apart : ∀ j k, j < n → k < n → j ≠ k → ∀ g, (v j).ownBlock = some g → (v k).ownBlock ≠ some g
def FamS (n : Nat) (v : Nat → Value) (b : Nat) : Prop := ∃ k, k < n ∧ (v k).ownBlock = some b
section
variable {e e' : TypeId} {w w1 : World} {base base' n n' : Nat} {v u : Nat → Value} {xs ys : Nat → List Value}
theorem Fam.only {S : Nat → Prop} (h : Fam e w base n v xs) (ho : Only w w1 S) (hs : ∀ k, k < n → ∀ g, (v k).ownBlock = some g → ¬ S g) : Fam e w1 base n v xs := ⟨fun k hk => ho.row (h.own k hk) (hs k hk), h.apart⟩
theorem Fam.congr (h : Fam e w base n v xs) (hx : ∀ k, k < n → xs k = ys k) : Fam e w base n v ys := ⟨fun k hk => by rw [← hx k hk]; exact h.own k hk, h.apart⟩
theorem Fam.typ (h : Fam e w base n v xs) {k g : Nat} (hk : k < n) (hg : (v k).ownBlock = some g) : ∃ cells, w.heap[g]? = some (.cells cells e (0, 0)) := own_cells (h.own k hk) hg
theorem Fam.lt (h : Fam e w base n v xs) {k g : Nat} (hk : k < n) (hg : (v k).ownBlock = some g) : base ≤ g ∧ g < w.heap.size := (h.own k hk).lt g hg
/-- rows of another kind are elsewhere -/
theorem typ_far {g : Nat} {c1 c2 : Array Value} (h1 : w.heap[g]? = some (.cells c1 e (0, 0))) (h2 : w.heap[g]? = some (.cells c2 e' (0, 0))) (he : e ≠ e') : False := by
  rw [h1] at h2
  injection h2 with h2
  injection h2 with _ h3 _
  exact he h3
theorem Fam.set (h : Fam e w base n v xs) {i j g : Nat} (x : Value) (hi : i < n) (hg : (v i).ownBlock = some g) : Fam e (w.setCell ⟨g, j, none⟩ x) base n v (fun k => if k = i then (xs i).set j x else xs k) := by
  refine ⟨fun k hk => ?_, h.apart⟩
  by_cases hki : k = i
  · subst hki
    rw [if_pos rfl, List.length_set]
    have ho := h.own k hk
    obtain ⟨cells, hc⟩ := own_cells ho hg
    rcases ho.2 with ⟨hv, _⟩ | ⟨g', cap, cur, hv, _⟩
    · rw [hv] at hg; cases hg
    · rw [hv] at ho hg ⊢
      obtain rfl : g' = g := by simpa [Value.ownBlock] using hg
      exact own_set ho j x
  · rw [if_neg hki]
    exact own_far (h.own k hk) (h.apart i k hi hk (fun q => hki q.symm) g hg) x
/-- rows v, of which xs is read, and rows av that began as they are and were gone on with -/
structure Gone (e : TypeId) (w : World) (base n : Nat) (v : Nat → Value) (xs : Nat → List Value) (av : Nat → Value) (ys : Nat → List Value) : Prop where
  fam : Fam e w base n av ys
  pre : ∀ k, k < n → (xs k).length ≤ (ys k).length
  reads : ∀ k, k < n → ∀ g j x, (v k).ownBlock = some g → (xs k)[j]? = some x → w.cell? ⟨g, j, none⟩ = some x
  link : ∀ k m, k < n → m < n → k ≠ m → ∀ g, (v k).ownBlock = some g → (av m).ownBlock ≠ some g
  typ : ∀ k, k < n → ∀ g, (v k).ownBlock = some g → ∃ cells, w.heap[g]? = some (.cells cells e (0, 0))
theorem Fam.gone (h : Fam e w base n v xs) : Gone e w base n v xs v xs :=
  ⟨h, fun _ _ => Nat.le_refl _, fun k hk _ j x hg hx => own_cells_at (h.own k hk) hg j x hx, h.apart, fun k hk _ hg => own_cells (h.own k hk) hg⟩
variable {av : Nat → Value}
theorem Gone.only {S : Nat → Prop} (h : Gone e w base n v xs av ys) (ho : Only w w1 S) (hs : ∀ b, S b → b < w.heap.size → ∀ cells, w.heap[b]? ≠ some (.cells cells e (0, 0))) : Gone e w1 base n v xs av ys := by
  have hlt : ∀ k, k < n → ∀ g, (v k).ownBlock = some g → g < w.heap.size ∧ ¬ S g := fun k hk g hg => by
    obtain ⟨c, hc⟩ := h.typ k hk g hg
    exact ⟨blk_lt hc, fun q => hs g q (blk_lt hc) c hc⟩
  refine ⟨h.fam.only ho fun k hk g hg q => ?_, h.pre, fun k hk g j x hg hx => ?_, h.link, fun k hk g hg => ?_⟩
  · obtain ⟨c, hc⟩ := h.fam.typ hk hg
    exact hs g q (blk_lt hc) c hc
  · exact (ho.cell (p := ⟨g, j, none⟩) (hlt k hk g hg).1 (hlt k hk g hg).2).trans (h.reads k hk g j x hg hx)
  · obtain ⟨c, hc⟩ := h.typ k hk g hg
    exact ⟨c, ho.blk hc (hlt k hk g hg).2⟩
theorem Gone.congr {ys' : Nat → List Value} {av' : Nat → Value} (h : Gone e w base n v xs av ys) (ha : ∀ k, k < n → av k = av' k) (hy : ∀ k, k < n → ys k = ys' k) : Gone e w base n v xs av' ys' :=
  ⟨⟨fun k hk => by rw [← ha k hk, ← hy k hk]; exact h.fam.own k hk, fun j k hj hk hjk g hg => by rw [← ha k hk]; exact h.fam.apart j k hj hk hjk g (by rw [ha j hj]; exact hg)⟩,
   fun k hk => by rw [← hy k hk]; exact h.pre k hk, h.reads, fun k m hk hm hkm g hg => by rw [← ha m hm]; exact h.link k m hk hm hkm g hg, h.typ⟩
/-- one more behind the row i -/
theorem Gone.app (h : Gone e w base n v xs av ys) {i : Nat} (hi : i < n) {A : Option Addr} {C m : Nat} {x : Value} (hm : m = (ys i).length) (hown : w1.ownsRow base e 1 (.slice A (m + 1) C) (m + 1) (ys i ++ [x])) (hgr : w.grownBy w1 (av i).ownBlock)
    (hat : (A.map Addr.block = (av i).ownBlock ∨ A.map Addr.block = some w.heap.size) ∧ Stays e w w1 (av i) m) :
    Gone e w1 base n v xs (fun k => if k = i then .slice A (m + 1) C else av k) (fun k => if k = i then ys i ++ [x] else ys k) := by
  subst hm
  have hnew : ∀ g, A.map Addr.block = some g → (av i).ownBlock = some g ∨ w.heap.size ≤ g := fun g hg => by
    rcases hat.1 with q | q
    · exact .inl (by rw [← q]; exact hg)
    · rw [q] at hg; injection hg with hg; exact .inr (Nat.le_of_eq hg)
  refine ⟨⟨fun k hk => ?_, fun j k hj hk hjk g hg => ?_⟩, fun k hk => ?_, fun k hk g j z hg hz => ?_, fun k m hk hm hkm g hg => ?_, fun k hk g hg => ?_⟩
  · by_cases hki : k = i
    · simp only [if_pos hki]
      rw [List.length_append]
      exact hown
    · simp only [if_neg hki]
      exact row_move (h.fam.own k hk) fun g hg => hgr.block g ((h.fam.own k hk).lt g hg).2 fun q => h.fam.apart k i hk hi hki g hg q.symm
  · by_cases hji : j = i
    · have hki : ¬ k = i := fun q => hjk (by rw [hji, q])
      simp only [if_pos hji, own_map] at hg
      simp only [if_neg hki]
      rcases hnew g hg with q | q
      · exact h.fam.apart i k hi hk (fun r => hki r.symm) g q
      · intro r
        have := ((h.fam.own k hk).lt g r).2
        omega
    · simp only [if_neg hji] at hg
      by_cases hki : k = i
      · simp only [if_pos hki, own_map]
        intro r
        rcases hnew g r with q | q
        · exact h.fam.apart j i hj hi hji g hg q
        · have := ((h.fam.own j hj).lt g hg).2
          omega
      · simp only [if_neg hki]
        exact h.fam.apart j k hj hk hjk g hg
  · have := h.pre k hk
    by_cases hki : k = i
    · subst hki
      show (xs k).length ≤ (if k = k then ys k ++ [x] else ys k).length
      rw [if_pos rfl, List.length_append]
      omega
    · simp only [if_neg hki]
      exact this
  · have hz0 := h.reads k hk g j z hg hz
    obtain ⟨c, hc⟩ := h.typ k hk g hg
    by_cases hq : (av i).ownBlock = some g
    · have hki : k = i := Classical.byContradiction fun r => h.link k i hk hi r g hg hq
      subst hki
      rw [(hat.2 g hq).1 j (by
        have := h.pre k hk
        have := (List.getElem?_eq_some_iff.1 hz).1
        omega)]
      exact hz0
    · exact (World.cell?_of_block (w := w) (hgr.block g (blk_lt hc) fun r => hq r.symm)).trans hz0
  · obtain ⟨c, hc⟩ := h.typ k hk g hg
    by_cases hmi : m = i
    · simp only [if_pos hmi, own_map]
      intro r
      rcases hnew g r with q | q
      · exact h.link k i hk hi (fun s => hkm (by rw [s, hmi])) g hg q
      · have := blk_lt hc
        omega
    · simp only [if_neg hmi]
      exact h.link k m hk hm hkm g hg
  · obtain ⟨c, hc⟩ := h.typ k hk g hg
    by_cases hq : (av i).ownBlock = some g
    · exact (hat.2 g hq).2
    · exact ⟨c, (hgr.block g (blk_lt hc) fun r => hq r.symm).trans hc⟩
end
end Go.Proofs.Ytihjpbalkjhjbaa
namespace Go.Proofs.Ytihjpbalkjhjbaa
open Go.RowKit Go.MapKept Go.MuLone Go.Shelf Go.Proofs.YtihjpbalkjhjbaaW.PrintWords Go.Proofs.YtihjpbalkjhjbaaW.PrintLast Go.Proofs.YtihjpbalkjhjbaaW.PrintMore Go.Proofs.Ytihjpbalkjhjbaa.PTableEnds
/-- the text of its own for each number -/
def markB (a : Int) : ByteArray := (fuguelaw11_mark.f a).getD ⟨#[]⟩
theorem strOfNums_three (a b c : Int) : (strOfNums [a, b, c]).size = 3 := rfl
theorem mark_is (a : Int) : fuguelaw11_mark.f a = some (markB a) := by
  unfold markB fuguelaw11_mark.f
  by_cases h : a < 0
  · simp only [if_pos h, Option.bind_some]
    rw [if_pos (by rw [strOfNums_three]; omega)]
    rfl
  · simp only [if_neg h, Option.bind_some]
    rw [if_pos (by rw [strOfNums_three]; omega)]
    rfl
theorem mark_calls (a : Int) (w : World) : Calls Try.prog 49 #[.int .i64 a] w fun e w' => e = .returned (.string (markB a)) ∧ Below w.heap.size w w' := fuguelaw11_mark.calls a _ w (mark_is a)
/-- the even rows before i are written over by marks of their own -/
def spoil (f : Nat → Value) (K : Nat → List Value) (i k : Nat) : List Value := if k % 2 = 0 ∧ k < i then List.replicate (K k).length (f k) else K k
/-- in the midst of row i -/
def spoilM (f : Nat → Value) (K : Nat → List Value) (i j k : Nat) : List Value := if k = i then List.replicate j (f i) ++ (K i).drop j else spoil f K i k
section
variable {f : Nat → Value} {K : Nat → List Value} {i j n : Nat}
theorem spoil_len (k : Nat) : (spoil f K i k).length = (K k).length := by unfold spoil; split <;> simp
theorem spoil_zero : spoil f K 0 = K := by funext k; unfold spoil; rw [if_neg (by omega)]
theorem spoilM_zero : spoilM f K i 0 = spoil f K i := by
  funext k
  unfold spoilM
  split
  · rename_i h
    subst h
    unfold spoil
    rw [if_neg (by omega)]
    simp
  · rfl
theorem spoilM_step (hj : j < (K i).length) : (fun k => if k = i then (spoilM f K i j i).set j (f i) else spoilM f K i j k) = spoilM f K i (j + 1) := by
  funext k
  by_cases h : k = i
  · subst h
    unfold spoilM
    rw [if_pos rfl, if_pos rfl, if_pos rfl, List.set_append_right _ _ (by simp), List.length_replicate, Nat.sub_self, List.drop_eq_getElem_cons hj, List.set_cons_zero, List.replicate_succ', List.append_assoc]
    rfl
  · unfold spoilM
    rw [if_neg h, if_neg h, if_neg h]
theorem spoilM_end (hi : i % 2 = 0) : spoilM f K i (K i).length = spoil f K (i + 2) := by
  funext k
  unfold spoilM spoil
  by_cases h : k = i
  · subst h
    rw [if_pos rfl, if_pos (by omega)]
    simp
  · rw [if_neg h]
    by_cases h2 : k % 2 = 0 ∧ k < i
    · rw [if_pos h2, if_pos (by omega)]
    · rw [if_neg h2, if_neg (by omega)]
theorem spoil_end (hi : n ≤ i) {k : Nat} (hk : k < n) : spoil f K i k = if k % 2 = 0 then List.replicate (K k).length (f k) else K k := by
  unfold spoil
  by_cases h : k % 2 = 0
  · rw [if_pos ⟨h, by omega⟩, if_pos h]
  · rw [if_neg (fun q => h q.1), if_neg h]
end
/-- replies as they lie: block lb, lists in rows of their own -/
structure Sp (w : World) (base lb n : Nat) (q : Nat → Bool × ByteArray) (vk vv : Nat → Value) (mk mv : Nat → Nat) (K V : Nat → List Value) : Prop where
  blk : ∃ cells, w.heap[lb]? = some (.cells cells 50 (0, 0))
  c0 : ∀ k, k < n → w.cell? ⟨lb, k * 4, none⟩ = some (.bool (q k).1)
  c1 : ∀ k, k < n → w.cell? ⟨lb, k * 4 + 1, none⟩ = some (.string (q k).2)
  c2 : ∀ k, k < n → w.cell? ⟨lb, k * 4 + 2, none⟩ = some (vk k)
  c3 : ∀ k, k < n → w.cell? ⟨lb, k * 4 + 3, none⟩ = some (vv k)
  lk : ∀ k, k < n → (K k).length = mk k
  lv : ∀ k, k < n → (V k).length = mv k
  keys : Fam 3 w base n vk K
  vals : Fam 9 w base n vv V
section
variable {w w1 : World} {base lb n : Nat} {q : Nat → Bool × ByteArray} {vk vv : Nat → Value} {mk mv : Nat → Nat} {K V : Nat → List Value}
theorem Sp.only {S : Nat → Prop} (h : Sp w base lb n q vk vv mk mv K V) (ho : Only w w1 S) (h1 : ¬ S lb) (h2 : ∀ b, FamS n vk b → ¬ S b) (h3 : ∀ b, FamS n vv b → ¬ S b) : Sp w1 base lb n q vk vv mk mv K V := by
  obtain ⟨c, hc⟩ := h.blk
  have hl := blk_lt hc
  have hcell : ∀ j : Nat, w1.cell? ⟨lb, j, none⟩ = w.cell? ⟨lb, j, none⟩ := fun j => ho.cell (p := ⟨lb, j, none⟩) hl h1
  exact ⟨⟨c, ho.blk hc h1⟩, fun k hk => (hcell _).trans (h.c0 k hk), fun k hk => (hcell _).trans (h.c1 k hk), fun k hk => (hcell _).trans (h.c2 k hk), fun k hk => (hcell _).trans (h.c3 k hk), h.lk, h.lv,
    h.keys.only ho fun k hk g hg => h2 g ⟨k, hk, hg⟩, h.vals.only ho fun k hk g hg => h3 g ⟨k, hk, hg⟩⟩
theorem Sp.fresh (h : Sp w base lb n q vk vv mk mv K V) (ho : Fresh w w1) : Sp w1 base lb n q vk vv mk mv K V := h.only ho (fun q => q) (fun _ _ q => q) fun _ _ q => q
theorem Sp.setK (h : Sp w base lb n q vk vv mk mv K V) {i j g : Nat} (x : Value) (hi : i < n) (hg : (vk i).ownBlock = some g) : Sp (w.setCell ⟨g, j, none⟩ x) base lb n q vk vv mk mv (fun k => if k = i then (K i).set j x else K k) V := by
  obtain ⟨c, hc⟩ := h.keys.typ hi hg
  obtain ⟨d, hd⟩ := h.blk
  have ho : Only w (w.setCell ⟨g, j, none⟩ x) fun b => b = g := (Only.refl _ fun b => b = g).setCell (p := ⟨g, j, none⟩) (.inl rfl) _
  have h1 : ¬ lb = g := fun e => by subst e; exact typ_far hd hc (by decide)
  have hcell : ∀ j' : Nat, (w.setCell ⟨g, j, none⟩ x).cell? ⟨lb, j', none⟩ = w.cell? ⟨lb, j', none⟩ := fun j' => ho.cell (p := ⟨lb, j', none⟩) (blk_lt hd) h1
  refine ⟨⟨d, ho.blk hd h1⟩, fun k hk => (hcell _).trans (h.c0 k hk), fun k hk => (hcell _).trans (h.c1 k hk), fun k hk => (hcell _).trans (h.c2 k hk), fun k hk => (hcell _).trans (h.c3 k hk), fun k hk => ?_, h.lv, h.keys.set x hi hg, h.vals.only ho fun k hk g' hg' e => ?_⟩
  · have := h.lk k hk
    by_cases e : k = i
    · subst e
      rw [if_pos rfl, List.length_set]
      exact this
    · rw [if_neg e]; exact this
  · subst e
    obtain ⟨c2, hc2⟩ := h.vals.typ hk hg'
    exact typ_far hc hc2 (by decide)
theorem Sp.setV (h : Sp w base lb n q vk vv mk mv K V) {i j g : Nat} (x : Value) (hi : i < n) (hg : (vv i).ownBlock = some g) : Sp (w.setCell ⟨g, j, none⟩ x) base lb n q vk vv mk mv K (fun k => if k = i then (V i).set j x else V k) := by
  obtain ⟨c, hc⟩ := h.vals.typ hi hg
  obtain ⟨d, hd⟩ := h.blk
  have ho : Only w (w.setCell ⟨g, j, none⟩ x) fun b => b = g := (Only.refl _ fun b => b = g).setCell (p := ⟨g, j, none⟩) (.inl rfl) _
  have h1 : ¬ lb = g := fun e => by subst e; exact typ_far hd hc (by decide)
  have hcell : ∀ j' : Nat, (w.setCell ⟨g, j, none⟩ x).cell? ⟨lb, j', none⟩ = w.cell? ⟨lb, j', none⟩ := fun j' => ho.cell (p := ⟨lb, j', none⟩) (blk_lt hd) h1
  refine ⟨⟨d, ho.blk hd h1⟩, fun k hk => (hcell _).trans (h.c0 k hk), fun k hk => (hcell _).trans (h.c1 k hk), fun k hk => (hcell _).trans (h.c2 k hk), fun k hk => (hcell _).trans (h.c3 k hk), h.lk, fun k hk => ?_, h.keys.only ho fun k hk g' hg' e => ?_, h.vals.set x hi hg⟩
  · have := h.lv k hk
    by_cases e : k = i
    · subst e
      rw [if_pos rfl, List.length_set]
      exact this
    · rw [if_neg e]; exact this
  · subst e
    obtain ⟨c2, hc2⟩ := h.keys.typ hk hg'
    exact typ_far hc hc2 (by decide)
theorem Sp.kat (h : Sp w base lb n q vk vv mk mv K V) {i : Nat} (hi : i < n) : ∃ A c, vk i = .slice A (mk i) c := by rw [← h.lk i hi]; exact own_slice (h.keys.own i hi)
theorem Sp.vat (h : Sp w base lb n q vk vv mk mv K V) {i : Nat} (hi : i < n) : ∃ A c, vv i = .slice A (mv i) c := by rw [← h.lv i hi]; exact own_slice (h.vals.own i hi)
theorem Sp.kcell (h : Sp w base lb n q vk vv mk mv K V) {i j : Nat} (hi : i < n) (hj : j < mk i) : ∃ g c x, vk i = .slice (some ⟨g, 0, none⟩) (mk i) c ∧ w.cell? ⟨g, j, none⟩ = some x ∧ w.frozen? ⟨g, j, none⟩ = false ∧ g < w.heap.size := by
  have hl := h.lk i hi
  obtain ⟨g, c, he, h1, h2, _⟩ := own_cell (h.keys.own i hi) (List.getElem?_eq_getElem (by rw [hl]; exact hj))
  rw [hl] at he
  exact ⟨g, c, _, he, h1, h2, World.block_lt_of_cell? _ _ h1⟩
theorem Sp.vcell (h : Sp w base lb n q vk vv mk mv K V) {i j : Nat} (hi : i < n) (hj : j < mv i) : ∃ g c x, vv i = .slice (some ⟨g, 0, none⟩) (mv i) c ∧ w.cell? ⟨g, j, none⟩ = some x ∧ w.frozen? ⟨g, j, none⟩ = false ∧ g < w.heap.size := by
  have hl := h.lv i hi
  obtain ⟨g, c, he, h1, h2, _⟩ := own_cell (h.vals.own i hi) (List.getElem?_eq_getElem (by rw [hl]; exact hj))
  rw [hl] at he
  exact ⟨g, c, _, he, h1, h2, World.block_lt_of_cell? _ _ h1⟩
end
/-- replies as they lie -/
structure LayIs (w : World) (lb n : Nat) (q : Nat → Bool × ByteArray) (vk vv : Nat → Value) : Prop where
  blk : ∃ cells, w.heap[lb]? = some (.cells cells 50 (0, 0))
  c0 : ∀ k, k < n → w.cell? ⟨lb, k * 4, none⟩ = some (.bool (q k).1)
  c1 : ∀ k, k < n → w.cell? ⟨lb, k * 4 + 1, none⟩ = some (.string (q k).2)
  c2 : ∀ k, k < n → w.cell? ⟨lb, k * 4 + 2, none⟩ = some (vk k)
  c3 : ∀ k, k < n → w.cell? ⟨lb, k * 4 + 3, none⟩ = some (vv k)
theorem Sp.lay {w : World} {base lb n : Nat} {q : Nat → Bool × ByteArray} {vk vv : Nat → Value} {mk mv : Nat → Nat} {K V : Nat → List Value} (h : Sp w base lb n q vk vv mk mv K V) : LayIs w lb n q vk vv := ⟨h.blk, h.c0, h.c1, h.c2, h.c3⟩
theorem LayIs.only {w w1 : World} {lb n : Nat} {q : Nat → Bool × ByteArray} {vk vv : Nat → Value} {S : Nat → Prop} (h : LayIs w lb n q vk vv) (ho : Only w w1 S) (h1 : ¬ S lb) : LayIs w1 lb n q vk vv := by
  obtain ⟨c, hc⟩ := h.blk
  have hl := blk_lt hc
  have hcell : ∀ j : Nat, w1.cell? ⟨lb, j, none⟩ = w.cell? ⟨lb, j, none⟩ := fun j => ho.cell (p := ⟨lb, j, none⟩) hl h1
  exact ⟨⟨c, ho.blk hc h1⟩, fun k hk => (hcell _).trans (h.c0 k hk), fun k hk => (hcell _).trans (h.c1 k hk), fun k hk => (hcell _).trans (h.c2 k hk), fun k hk => (hcell _).trans (h.c3 k hk)⟩
/-- so many marks stand behind row k -/
def goneN (t j k : Nat) : Nat := if k % 2 = 0 ∧ k < 2 * t then 64 else if k = 2 * t then j else 0
def yK (f : Nat → Value) (K : Nat → List Value) (t j k : Nat) : List Value := K k ++ List.replicate (goneN t j k) (f k)
theorem yK_start (f : Nat → Value) (K : Nat → List Value) : yK f K 0 0 = K := by
  funext k
  unfold yK goneN
  rw [if_neg (by omega)]
  simp
theorem yK_at (f : Nat → Value) (K : Nat → List Value) (t j : Nat) : yK f K t j (2 * t) = K (2 * t) ++ List.replicate j (f (2 * t)) := by
  unfold yK goneN
  rw [if_neg (by omega), if_pos rfl]
theorem yK_step (f : Nat → Value) (K : Nat → List Value) (t j : Nat) : (fun k => if k = 2 * t then yK f K t j (2 * t) ++ [f (2 * t)] else yK f K t j k) = yK f K t (j + 1) := by
  funext k
  by_cases h : k = 2 * t
  · subst h
    rw [if_pos rfl, yK_at, yK_at, List.replicate_succ', List.append_assoc]
  · rw [if_neg h]
    unfold yK goneN
    rw [if_neg h, if_neg h]
theorem yK_end (f : Nat → Value) (K : Nat → List Value) (t : Nat) : yK f K t 64 = yK f K (t + 1) 0 := by
  funext k
  unfold yK goneN
  congr 2
  split
  · rw [if_pos (by omega)]
  · split
    · rw [if_pos (by omega)]
    · rw [if_neg (by omega)]
      split <;> rfl
/-- the lists that were gone on with: t rows are done, of row 2 t so many marks -/
structure Ap (w4 wr : World) (base lb n : Nat) (q : Nat → Bool × ByteArray) (vk vv : Nat → Value) (K V : Nat → List Value) (fk fv : Nat → Value) (t jk jv t8 t9 : Nat) (ak av : Nat → Value) (a8 a9 : Value) : Prop where
  lay : LayIs wr lb n q vk vv
  gk : Gone 3 wr base n vk K ak (yK fk K t jk)
  gv : Gone 9 wr base n vv V av (yK fv V t jv)
  ek : ∀ k, k < n → goneN t jk k = 0 → ak k = vk k
  ev : ∀ k, k < n → goneN t jv k = 0 → av k = vv k
  ok : ∀ k, k < n → ∀ g, (ak k).ownBlock = some g → (vk k).ownBlock = some g ∨ w4.heap.size ≤ g
  ov : ∀ k, k < n → ∀ g, (av k).ownBlock = some g → (vv k).ownBlock = some g ∨ w4.heap.size ≤ g
  r8 : wr.ownsRow w4.heap.size 27 1 a8 t8 ((List.range t8).map fun s => ak (2 * s))
  r9 : wr.ownsRow w4.heap.size 28 1 a9 t9 ((List.range t9).map fun s => av (2 * s))
  only : Only w4 wr fun b => FamS n vk b ∨ FamS n vv b
section
variable {w4 wr W w' : World} {base lb n : Nat} {q : Nat → Bool × ByteArray} {vk vv : Nat → Value} {K V : Nat → List Value} {fk fv : Nat → Value} {t jk jv t8 t9 : Nat} {ak av : Nat → Value} {a8 a9 : Value}
theorem Ap.fresh (h : Ap w4 wr base lb n q vk vv K V fk fv t jk jv t8 t9 ak av a8 a9) (ho : Fresh wr W) : Ap w4 W base lb n q vk vv K V fk fv t jk jv t8 t9 ak av a8 a9 :=
  ⟨h.lay.only ho (fun q => q), h.gk.only ho fun _ q => q.elim, h.gv.only ho fun _ q => q.elim, h.ek, h.ev, h.ok, h.ov, ho.row h.r8 fun _ _ q => q, ho.row h.r9 fun _ _ q => q, h.only.trans ho fun _ q => q.elim⟩
theorem Ap.addK (h : Ap w4 wr base lb n q vk vv K V fk fv t jk jv t8 t9 ak av a8 a9) (hW : Fresh wr W) {i m C : Nat} {A : Option Addr} (hi : i < n) (hit : i = 2 * t) (h8 : t8 ≤ t) (hm : m = (K i).length + jk)
    (hown : w'.ownsRow base 3 1 (.slice A (m + 1) C) (m + 1) ((K i ++ List.replicate jk (fk i)) ++ [fk i])) (hgr : W.grownBy w' (ak i).ownBlock)
    (hat : (A.map Addr.block = (ak i).ownBlock ∨ A.map Addr.block = some W.heap.size) ∧ Stays 3 W w' (ak i) m) :
    Ap w4 w' base lb n q vk vv K V fk fv t (jk + 1) jv t8 t9 (fun k => if k = i then .slice A (m + 1) C else ak k) av a8 a9 := by
  have hF := h.fresh hW
  subst hit
  have hy := yK_at fk K t jk
  have hS : Only W w' fun b => (ak (2 * t)).ownBlock = some b := (Only.refl _ _).grown hgr fun g hg => .inl hg
  have htyp : ∀ b, (ak (2 * t)).ownBlock = some b → ∃ c, W.heap[b]? = some (.cells c 3 (0, 0)) := fun b hb => hF.gk.fam.typ hi hb
  have hgk := hF.gk.app hi (A := A) (C := C) (x := fk (2 * t)) (m := m) (by rw [hm, hy]; simp) (by rw [hy]; exact hown) hgr hat
  rw [yK_step] at hgk
  obtain ⟨cl, hcl⟩ := hF.lay.blk
  have hrow : ∀ {e : TypeId} {T : Nat} {v : Value} {xs : List Value}, e ≠ 3 → W.ownsRow w4.heap.size e 1 v T xs → w'.ownsRow w4.heap.size e 1 v T xs := fun he hr => hS.row hr fun g hg hb => by
    obtain ⟨c1, h1⟩ := own_cells hr hg
    obtain ⟨c2, h2⟩ := htyp g hb
    exact typ_far h1 h2 he
  refine ⟨hF.lay.only hS fun hb => ?_, hgk, hF.gv.only hS fun b hb _ c hc => ?_, fun k hk hg => ?_, h.ev, fun k hk g hg => ?_, h.ov, ?_, hrow (by decide) hF.r9, ?_⟩
  · obtain ⟨c, hc⟩ := htyp lb hb
    exact typ_far hcl hc (by decide)
  · obtain ⟨c2, h2⟩ := htyp b hb
    exact typ_far hc h2 (by decide)
  · have hk2 : k ≠ 2 * t := fun e => by
      subst e
      unfold goneN at hg
      rw [if_neg (by omega), if_pos rfl] at hg
      omega
    simp only [if_neg hk2]
    refine h.ek k hk ?_
    unfold goneN at hg ⊢
    rw [if_neg hk2] at hg ⊢
    exact hg
  · by_cases hk2 : k = 2 * t
    · simp only [if_pos hk2, own_map] at hg
      rcases hat.1 with r | r
      · subst hk2
        exact h.ok _ hi g (by rw [← r]; exact hg)
      · rw [r] at hg
        injection hg with hg
        exact .inr (by have := hF.only.size; omega)
    · simp only [if_neg hk2] at hg
      exact h.ok k hk g hg
  · have := hrow (by decide) hF.r8
    rwa [show (List.range t8).map (fun s => ak (2 * s)) = (List.range t8).map (fun s => if 2 * s = 2 * t then .slice A (m + 1) C else ak (2 * s)) from List.map_congr_left fun s hs => by
      have := List.mem_range.1 hs
      rw [if_neg (by omega)]] at this
  · refine hF.only.grown hgr fun g hg => ?_
    rcases h.ok _ hi g hg with r | r
    · exact .inl (.inl ⟨_, hi, r⟩)
    · exact .inr r
theorem Ap.add8 (h : Ap w4 wr base lb n q vk vv K V fk fv t jk jv t8 t9 ak av a8 a9) (hW : Fresh wr W) {x : Value} {C : Nat} {A : Option Addr} (hx : x = ak (2 * t8))
    (hown : w'.ownsRow w4.heap.size 27 1 (.slice A (t8 + 1) C) (t8 + 1) (((List.range t8).map fun s => ak (2 * s)) ++ [x])) (hgr : W.grownBy w' a8.ownBlock) :
    Ap w4 w' base lb n q vk vv K V fk fv t jk jv (t8 + 1) t9 ak av (.slice A (t8 + 1) C) a9 := by
  have hF := h.fresh hW
  have hS : Only W w' fun b => a8.ownBlock = some b := (Only.refl _ _).grown hgr fun g hg => .inl hg
  have htyp : ∀ b, a8.ownBlock = some b → ∃ c, W.heap[b]? = some (.cells c 27 (0, 0)) := fun b hb => own_cells hF.r8 hb
  obtain ⟨cl, hcl⟩ := hF.lay.blk
  refine ⟨hF.lay.only hS fun hb => ?_, hF.gk.only hS fun b hb _ c hc => ?_, hF.gv.only hS fun b hb _ c hc => ?_, h.ek, h.ev, h.ok, h.ov, ?_, hS.row hF.r9 fun g hg hb => ?_, ?_⟩
  · obtain ⟨c, hc⟩ := htyp lb hb
    exact typ_far hcl hc (by decide)
  · obtain ⟨c2, h2⟩ := htyp b hb
    exact typ_far hc h2 (by decide)
  · obtain ⟨c2, h2⟩ := htyp b hb
    exact typ_far hc h2 (by decide)
  · rw [List.range_succ, List.map_append, List.map_singleton, ← hx]
    exact hown
  · obtain ⟨c1, h1⟩ := own_cells hF.r9 hg
    obtain ⟨c2, h2⟩ := htyp g hb
    exact typ_far h1 h2 (by decide)
  · exact hF.only.grown hgr fun g hg => .inr (hF.r8.lt g hg).1
theorem Ap.addV (h : Ap w4 wr base lb n q vk vv K V fk fv t jk jv t8 t9 ak av a8 a9) (hW : Fresh wr W) {i m C : Nat} {A : Option Addr} (hi : i < n) (hit : i = 2 * t) (h9 : t9 ≤ t) (hm : m = (V i).length + jv)
    (hown : w'.ownsRow base 9 1 (.slice A (m + 1) C) (m + 1) ((V i ++ List.replicate jv (fv i)) ++ [fv i])) (hgr : W.grownBy w' (av i).ownBlock)
    (hat : (A.map Addr.block = (av i).ownBlock ∨ A.map Addr.block = some W.heap.size) ∧ Stays 9 W w' (av i) m) :
    Ap w4 w' base lb n q vk vv K V fk fv t jk (jv + 1) t8 t9 ak (fun k => if k = i then .slice A (m + 1) C else av k) a8 a9 := by
  have hF := h.fresh hW
  subst hit
  have hy := yK_at fv V t jv
  have hS : Only W w' fun b => (av (2 * t)).ownBlock = some b := (Only.refl _ _).grown hgr fun g hg => .inl hg
  have htyp : ∀ b, (av (2 * t)).ownBlock = some b → ∃ c, W.heap[b]? = some (.cells c 9 (0, 0)) := fun b hb => hF.gv.fam.typ hi hb
  have hgv := hF.gv.app hi (A := A) (C := C) (x := fv (2 * t)) (m := m) (by rw [hm, hy]; simp) (by rw [hy]; exact hown) hgr hat
  rw [yK_step] at hgv
  obtain ⟨cl, hcl⟩ := hF.lay.blk
  have hrow : ∀ {e : TypeId} {T : Nat} {v : Value} {xs : List Value}, e ≠ 9 → W.ownsRow w4.heap.size e 1 v T xs → w'.ownsRow w4.heap.size e 1 v T xs := fun he hr => hS.row hr fun g hg hb => by
    obtain ⟨c1, h1⟩ := own_cells hr hg
    obtain ⟨c2, h2⟩ := htyp g hb
    exact typ_far h1 h2 he
  refine ⟨hF.lay.only hS fun hb => ?_, hF.gk.only hS fun b hb _ c hc => ?_, hgv, h.ek, fun k hk hg => ?_, h.ok, fun k hk g hg => ?_, hrow (by decide) hF.r8, ?_, ?_⟩
  · obtain ⟨c, hc⟩ := htyp lb hb
    exact typ_far hcl hc (by decide)
  · obtain ⟨c2, h2⟩ := htyp b hb
    exact typ_far hc h2 (by decide)
  · have hk2 : k ≠ 2 * t := fun e => by
      subst e
      unfold goneN at hg
      rw [if_neg (by omega), if_pos rfl] at hg
      omega
    simp only [if_neg hk2]
    refine h.ev k hk ?_
    unfold goneN at hg ⊢
    rw [if_neg hk2] at hg ⊢
    exact hg
  · by_cases hk2 : k = 2 * t
    · simp only [if_pos hk2, own_map] at hg
      rcases hat.1 with r | r
      · subst hk2
        exact h.ov _ hi g (by rw [← r]; exact hg)
      · rw [r] at hg
        injection hg with hg
        exact .inr (by have := hF.only.size; omega)
    · simp only [if_neg hk2] at hg
      exact h.ov k hk g hg
  · have := hrow (by decide) hF.r9
    rwa [show (List.range t9).map (fun s => av (2 * s)) = (List.range t9).map (fun s => if 2 * s = 2 * t then .slice A (m + 1) C else av (2 * s)) from List.map_congr_left fun s hs => by
      have := List.mem_range.1 hs
      rw [if_neg (by omega)]] at this
  · refine hF.only.grown hgr fun g hg => ?_
    rcases h.ov _ hi g hg with r | r
    · exact .inl (.inr ⟨_, hi, r⟩)
    · exact .inr r
theorem Ap.add9 (h : Ap w4 wr base lb n q vk vv K V fk fv t jk jv t8 t9 ak av a8 a9) (hW : Fresh wr W) {x : Value} {C : Nat} {A : Option Addr} (hx : x = av (2 * t9))
    (hown : w'.ownsRow w4.heap.size 28 1 (.slice A (t9 + 1) C) (t9 + 1) (((List.range t9).map fun s => av (2 * s)) ++ [x])) (hgr : W.grownBy w' a9.ownBlock) :
    Ap w4 w' base lb n q vk vv K V fk fv t jk jv t8 (t9 + 1) ak av a8 (.slice A (t9 + 1) C) := by
  have hF := h.fresh hW
  have hS : Only W w' fun b => a9.ownBlock = some b := (Only.refl _ _).grown hgr fun g hg => .inl hg
  have htyp : ∀ b, a9.ownBlock = some b → ∃ c, W.heap[b]? = some (.cells c 28 (0, 0)) := fun b hb => own_cells hF.r9 hb
  obtain ⟨cl, hcl⟩ := hF.lay.blk
  refine ⟨hF.lay.only hS fun hb => ?_, hF.gk.only hS fun b hb _ c hc => ?_, hF.gv.only hS fun b hb _ c hc => ?_, h.ek, h.ev, h.ok, h.ov, hS.row hF.r8 fun g hg hb => ?_, ?_, ?_⟩
  · obtain ⟨c, hc⟩ := htyp lb hb
    exact typ_far hcl hc (by decide)
  · obtain ⟨c2, h2⟩ := htyp b hb
    exact typ_far hc h2 (by decide)
  · obtain ⟨c2, h2⟩ := htyp b hb
    exact typ_far hc h2 (by decide)
  · obtain ⟨c1, h1⟩ := own_cells hF.r8 hg
    obtain ⟨c2, h2⟩ := htyp g hb
    exact typ_far h1 h2 (by decide)
  · rw [List.range_succ, List.map_append, List.map_singleton, ← hx]
    exact hown
  · exact hF.only.grown hgr fun g hg => .inr (hF.r9.lt g hg).1
theorem Ap.next (h : Ap w4 wr base lb n q vk vv K V fk fv t 64 64 t8 t9 ak av a8 a9) : Ap w4 wr base lb n q vk vv K V fk fv (t + 1) 0 0 t8 t9 ak av a8 a9 := by
  have hz : ∀ k, goneN t 64 k = goneN (t + 1) 0 k := fun k => by
    unfold goneN
    split
    · rw [if_pos (by omega)]
    · split
      · rw [if_pos (by omega)]
      · rw [if_neg (by omega)]
        split <;> rfl
  refine ⟨h.lay, by rw [← yK_end]; exact h.gk, by rw [← yK_end]; exact h.gv, fun k hk hg => h.ek k hk (by rw [hz]; exact hg), fun k hk hg => h.ev k hk (by rw [hz]; exact hg), h.ok, h.ov, h.r8, h.r9, h.only⟩
theorem Ap.start (hl : LayIs wr lb n q vk vv) (hk : Fam 3 wr base n vk K) (hv : Fam 9 wr base n vv V) (ho : Only w4 wr fun b => FamS n vk b ∨ FamS n vv b) : Ap w4 wr base lb n q vk vv K V fk fv 0 0 0 0 0 vk vv (.slice none 0 0) (.slice none 0 0) :=
  ⟨hl, by rw [yK_start]; exact hk.gone, by rw [yK_start]; exact hv.gone, fun _ _ _ => rfl, fun _ _ _ => rfl, fun _ _ g hg => .inl hg, fun _ _ g hg => .inl hg, nil_row _ _ _ _ rfl, nil_row _ _ _ _ rfl, ho⟩
end
end Go.Proofs.Ytihjpbalkjhjbaa
