/- A step towards the laws on the cells of a run: the contract of Drop. No conditions of its own beyond those that its theorems name. -/
import Derived.Test.YtabfmoedbnpihaaKFixed
import Derived.Test.YtabfmoedbnpihaaKIter
import Derived.Maps.RangeWalk
import Derived.Deep.LoopGhost
namespace Go.Proofs.Ytabfmoedbnpihaa
open Go.RowKit Go.MapKept

/-- a slice of ints, in whatever memory -/
def Ints (w : World) (A : Option Addr) (n : Nat) (xs : List Int) : Prop :=
  xs.length = n ∧ ∀ (i : Nat) (x : Int), xs[i]? = some x → ∃ b o, A = some ⟨b, o, none⟩ ∧ b < w.heap.size ∧ w.cell? ⟨b, o + i, none⟩ = some (.int .i64 x)

def dErr (md : Nat) (f : Int → Bool) (l : List Int) : Int := if ∀ n ∈ l, 1 ≤ n ∧ n ≤ md then (if l.Nodup ∧ ∀ n ∈ l, f n = true then 0 else 32) else 1
theorem dErr_arg {md : Nat} {f : Int → Bool} {l : List Int} {x : Int} (hx : x ∈ l) (h : x < 1 ∨ md < x) : dErr md f l = 1 := by
  unfold dErr
  rw [if_neg]
  intro q
  have := q x hx
  omega
theorem dErr_dangle {md : Nat} {f : Int → Bool} {l : List Int} (h1 : ∀ n ∈ l, 1 ≤ n ∧ n ≤ (md : Int)) (h : ¬ (l.Nodup ∧ ∀ n ∈ l, f n = true)) : dErr md f l = 32 := by
  unfold dErr
  rw [if_pos h1, if_neg h]
theorem dErr_ok {md : Nat} {f : Int → Bool} {l : List Int} (h1 : ∀ n ∈ l, 1 ≤ n ∧ n ≤ (md : Int)) (h : l.Nodup ∧ ∀ n ∈ l, f n = true) : dErr md f l = 0 := by
  unfold dErr
  rw [if_pos h1, if_pos h]

/-- what is so behind Drop -/
def DropPost (r : Int) (w w' : World) (bm : Nat) (f : Int → Option Value) (l : List Int) : Prop :=
  if r = 0 then IMap w' bm (fun k => if k ∈ l then none else f k) ∧ Only w w' (fun b => b = bm) else Fresh w w'
theorem DropPost.bad {r : Int} {w w' : World} {bm : Nat} {f : Int → Option Value} {l : List Int} (hr : r ≠ 0) (h : Fresh w w') : DropPost r w w' bm f l := by
  unfold DropPost
  rw [if_neg hr]
  exact h
theorem zeroInt (w : World) : (zeroValue 3).run Try.prog w = .ok (.int .i64 0) w := by kernel_rfl

theorem take_mem {l : List Int} {i : Nat} {x : Int} (h : l[i]? = some x) : l.take (i + 1) = l.take i ++ [x] := by
  rw [List.take_add_one, h]; rfl

set_option maxRecDepth 100000 in
set_option maxHeartbeats 2000000 in
theorem drop_walk (w : World) (p bm : Nat) (gv fv : Value) (md : Nat) (f : Int → Option Value) (A : Option Addr) (n C : Nat) (l : List Int)
    (h : w.heap[p]? = some (.cells #[gv, .map (some bm), .int .i64 md, fv] 66 (0, 0))) (hm : IMap w bm f) (hl : Ints w A n l) (hn : n ≤ 9223372036854775807) (hmd : md < Lim)
    (hv : ∀ k v, f k = some v → ∃ a c, v = .agg #[.slice a c c]) :
    Calls Try.prog 38 #[.pointer (some ⟨p, 0, none⟩), .slice A n C] w fun e w' => e = .returned (.int .i64 (dErr md (fun k => (f k).isSome) l)) ∧ DropPost (dErr md (fun k => (f k).isSome) l) w w' bm f l := by
  have c1 : w.cell? ⟨p, 1, none⟩ = some (.map (some bm)) := blk_cell h rfl
  have c2 : w.cell? ⟨p, 2, none⟩ = some (.int .i64 md) := blk_cell h rfl
  have hp := blk_lt h
  unfold Lim at hmd
  have hmd' : md ≤ 9223372036854775806 := by omega
  clear hmd
  have H := Lib.hid h
  have HM := Lib.hid hm
  have HL := Lib.hid hl
  have HVV := Lib.hid hv
  have hln : l.length = n := hl.1
  have HLN := Lib.hid hln
  clear h hm hl hv hln
  obtain ⟨r, hr⟩ : ∃ r, r = dErr md (fun k => (f k).isSome) l := ⟨_, rfl⟩
  rw [← hr]
  have HR := Lib.hid hr
  clear hr
  go_enter Try.func38, Try.ntmps38
  go_wp2_with fail
  go_loop [17] (fun s17 => ∃ i : Nat, i ≤ n ∧ s17 = .int .i64 i ∧ ∀ x ∈ l.take i, 1 ≤ x ∧ x ≤ (md : Int)) (fun s17 => n - (intOf s17).toNat)
  case atStart => exact ⟨0, Nat.zero_le _, rfl, by simp⟩
  case round =>
    obtain ⟨i, hi, rfl, hall⟩ := hrel
    have HA := Lib.hid hall
    clear hall
    by_cases hlt : i < n
    · obtain ⟨x, hx⟩ : ∃ x, l[i]? = some x := ⟨l[i]'(by have := HLN.out; omega), List.getElem?_eq_getElem _⟩
      obtain ⟨b, o, rfl, hb, hx0⟩ := HL.out.2 i x hx
      have HX := Lib.hid hx
      clear hx
      by_cases hx1 : x < 1
      · have d1 : decide (x < 1) = true := by simp [hx1]
        go_wp2_with fail
        go_ret
        have hr1 : r = 1 := by rw [HR.out]; exact dErr_arg (List.mem_of_getElem? HX.out) (.inl hx1)
        subst hr1
        exact ⟨rfl, DropPost.bad (by decide) (Only.refl _ _)⟩
      · have d1 : decide (x < 1) = false := by simp; omega
        by_cases hx2 : (md : Int) < x
        · have d2 : decide (x > (md : Int)) = true := by simp [hx2]
          go_wp2_with fail
          go_ret
          have hr1 : r = 1 := by rw [HR.out]; exact dErr_arg (List.mem_of_getElem? HX.out) (.inr hx2)
          subst hr1
          exact ⟨rfl, DropPost.bad (by decide) (Only.refl _ _)⟩
        · have d2 : decide (x > (md : Int)) = false := by simp; omega
          go_wp2_with fail
          go_round
          case rel =>
            refine ⟨i + 1, by omega, by go_num, fun y hy => ?_⟩
            rw [take_mem HX.out, List.mem_append, List.mem_singleton] at hy
            rcases hy with hy | rfl
            · exact HA.out y hy
            · omega
          case measure => simp [intOf]; omega
    · have hall : ∀ x ∈ l, 1 ≤ x ∧ x ≤ (md : Int) := by
        have := HA.out
        rwa [List.take_of_length_le (by have := HLN.out; omega)] at this
      have HALL := Lib.hid hall
      clear hall HA
      have hmm := @run_makeMap Try.prog
      go_wp2_with fail
      have hgm := IMap.made w
      have hsz : (w.alloc (.map #[] 0)).heap.size = w.heap.size + 1 := by simp
      have hfr0 : Fresh w (w.alloc (.map #[] 0)) := (Only.refl _ _).alloc _
      have hbm := HM.out.lt
      obtain ⟨gm, hgme⟩ : ∃ gm, gm = w.heap.size := ⟨_, rfl⟩
      rw [← hgme] at hgm ⊢
      have HGM := Lib.hid hgme
      have HG0 := Lib.hid hgm
      have HF0 := Lib.hid hfr0
      clear hgm hfr0 hgme hsz
      generalize w.alloc (.map #[] 0) = wg at *
      go_loopw [35] (fun s35 wr => ∃ i : Nat, i ≤ n ∧ s35 = .int .i64 i ∧ (l.take i).Nodup ∧ (∀ x ∈ l.take i, (f x).isSome = true) ∧ IMap wr gm (fun k => if k ∈ l.take i then some (.int .i64 1) else none) ∧ Fresh w wr) (fun s35 _ => n - (intOf s35).toNat)
      case atStart => exact ⟨0, Nat.zero_le _, rfl, by simp, by simp, by simpa using HG0.out, HF0.out⟩
      case round =>
        obtain ⟨i, hi, rfl, hnd, hsome, hgi, hfr⟩ := hrel
        have HND := Lib.hid hnd
        have HSO := Lib.hid hsome
        have HGI := Lib.hid hgi
        have HFR := Lib.hid hfr
        have HCI := Lib.hid (HFR.out.cell H.out)
        have c1' : wr.cell? ⟨p, 1, none⟩ = some (.map (some bm)) := blk_cell HCI.out rfl
        clear hnd hsome hgi hfr c1 c2
        by_cases hlt : i < n
        · obtain ⟨x, hx⟩ : ∃ x, l[i]? = some x := ⟨l[i]'(by have := HLN.out; omega), List.getElem?_eq_getElem _⟩
          obtain ⟨b, o, rfl, hb, hx0⟩ := HL.out.2 i x hx
          have hx1 : wr.cell? ⟨b, o + i, none⟩ = some (.int .i64 x) := (Only.cell HFR.out (p := ⟨b, o + i, none⟩) hb (fun q => q)).trans hx0
          have HX := Lib.hid hx
          clear hx hx0
          obtain ⟨c, hc⟩ : ∃ c : Nat, c = if x ∈ l.take i then 1 else 0 := ⟨_, rfl⟩
          have hlk := IMap.run_lookup1 Try.underlying95 Try.underlying3 HGI.out _ (zeroInt _) x
          have hlk' : (Instr.lookup 95 (.map (some gm)) (.int .i64 x) false).run Try.prog wr = .ok (.int .i64 c) wr := by
            rw [hlk, hc]
            by_cases q : x ∈ l.take i <;> simp [q]
          have hc1 : c ≤ 1 := by rw [hc]; split <;> omega
          have HC := Lib.hid hc
          clear hlk hc
          obtain ⟨w1, hrun, him, hturn, _⟩ := IMap.run_update Try.underlying95 Try.underlying3 HGI.out x (.int .i64 ((c : Int) + 1))
          have hgb : gm ≠ bm := by
            have := HGM.out
            omega
          have HT := Lib.hid hturn
          have HI1 := Lib.hid him
          have hz1 : p ≠ gm := by
            have := HGM.out
            omega
          have c1'' : w1.cell? ⟨p, 1, none⟩ = some (.map (some bm)) := (HT.out.cell hz1).trans c1'
          have HM1 := Lib.hid (((HM.out.only HFR.out (fun q => q))).of_block (HT.out.2.2.2.2 bm (fun e => hgb e.symm)))
          have hlm := IMap.run_lookup2 Try.underlying64 Try.underlying3 HM1.out _ (zeroCell _) x
          clear hturn him
          have hFRn : Fresh w w1 := HFR.out.trans (HT.out.only (S := fun b => b = gm) rfl) fun b q => .inr (by
            have := HGM.out
            have e : b = gm := q
            omega)
          have HF1 := Lib.hid hFRn
          clear hFRn
          cases hfx : f x with
          | none =>
            rw [hfx] at hlm
            simp only [Option.getD_none, Option.isSome_none] at hlm
            have HFX := Lib.hid hfx
            clear hfx
            go_wp2_with fail
            go_ret
            have hr1 : r = 32 := by
              rw [HR.out]
              refine dErr_dangle HALL.out fun q => ?_
              have := q.2 x (List.mem_of_getElem? HX.out)
              rw [HFX.out] at this
              cases this
            subst hr1
            exact ⟨rfl, DropPost.bad (by decide) (by repeat (first | exact HF1.out | refine Only.alloc ?_ _ | refine Only.setCell ?_ (.inr (by have := HF1.out.size; simp; omega)) _))⟩
          | some v =>
            obtain ⟨a, cc, rfl⟩ := HVV.out x v hfx
            rw [hfx] at hlm
            simp only [Option.getD_some, Option.isSome_some] at hlm
            have HFX := Lib.hid hfx
            clear hfx
            have hl3 : (Instr.lookup 95 (.map (some gm)) (.int .i64 x) false).run Try.prog (w1.alloc (.cells #[.slice a cc cc] 68)) = .ok (.int .i64 ((c : Int) + 1)) (w1.alloc (.cells #[.slice a cc cc] 68)) := by
              have := IMap.run_lookup1 Try.underlying95 Try.underlying3 (HI1.out.of_block (Below.heap_alloc w1 (.cells #[.slice a cc cc] 68) gm HI1.out.lt)) _ (zeroInt _) x
              rw [this]
              simp
            by_cases hxi : x ∈ l.take i
            · have hc2 : c = 1 := by rw [HC.out, if_pos hxi]
              have d1 : decide (((c : Int) + 1) > 1) = true := by simp [hc2]
              have HXI := Lib.hid hxi
              clear hxi hc2
              go_wp2_with fail
              go_ret
              have hr1 : r = 32 := by
                rw [HR.out]
                refine dErr_dangle HALL.out fun q => ?_
                have q1 := q.1
                have e : l = l.take i ++ x :: l.drop (i + 1) := by
                  obtain ⟨hil, hxe⟩ := List.getElem?_eq_some_iff.1 HX.out
                  rw [← hxe, List.getElem_cons_drop, List.take_append_drop]
                rw [e, List.nodup_append] at q1
                exact q1.2.2 x HXI.out x (by simp) rfl
              subst hr1
              exact ⟨rfl, DropPost.bad (by decide) (HF1.out.alloc _)⟩
            · have hc2 : c = 0 := by rw [HC.out, if_neg hxi]
              have d1 : decide (((c : Int) + 1) > 1) = false := by simp [hc2]
              have HXI := Lib.hid hxi
              have HC2 := Lib.hid hc2
              clear hxi hc2
              go_wp2_with fail
              go_roundw
              case rel =>
                refine ⟨i + 1, by omega, by go_num, ?_, ?_, ?_, HF1.out.alloc _⟩
                · rw [take_mem HX.out, List.nodup_append]
                  refine ⟨HND.out, by simp, fun y hy z hz e => ?_⟩
                  simp at hz
                  subst hz; subst e
                  exact HXI.out hy
                · intro y hy
                  rw [take_mem HX.out, List.mem_append, List.mem_singleton] at hy
                  rcases hy with hy | rfl
                  · exact HSO.out y hy
                  · rw [HFX.out]; rfl
                · have e : (fun j => if j = x then some (.int .i64 ((c : Int) + 1)) else if j ∈ l.take i then some (.int .i64 1) else none) = fun k => if k ∈ l.take (i + 1) then some (Value.int .i64 1) else none := by
                    funext j
                    rw [take_mem HX.out, HC2.out]
                    simp only [List.mem_append, List.mem_singleton]
                    by_cases h1 : j = x <;> by_cases h2 : j ∈ l.take i <;> simp [h1, h2]
                  have := HI1.out.of_block (Below.heap_alloc w1 (.cells #[.slice a cc cc] 68) gm HI1.out.lt)
                  rw [e] at this
                  exact this
              case measure => simp [intOf]; omega
        · have hlen : l.take i = l := List.take_of_length_le (by have := HLN.out; omega)
          have hr0 : r = 0 := by
            rw [HR.out]
            have h1 := HND.out
            have h2 := HSO.out
            rw [hlen] at h1 h2
            exact dErr_ok HALL.out ⟨h1, h2⟩
          subst hr0
          have hgi := HGI.out
          rw [hlen] at hgi
          obtain ⟨hrg, cnt0, hit⟩ := IMap.run_range (P := Try.prog) Try.underlying95 hgi
          have hgb : gm ≠ bm := by
            have := HGM.out
            omega
          have hsz2 := HFR.out.size
          obtain ⟨ib, hib⟩ : ∃ ib, ib = wr.heap.size := ⟨_, rfl⟩
          rw [← hib] at hrg hit
          have hibm : bm ≠ ib := by omega
          have hibg : ib ≠ gm := by have := HGI.out.lt; omega
          have hibp : p ≠ ib := by omega
          have hbp : p ≠ bm := by
            intro e
            have e1 := H.out
            obtain ⟨es, ck, e2, _⟩ := HM.out
            rw [e, e2] at e1
            cases e1
          have hib0 : w.heap.size ≤ ib := by omega
          have HIT := Lib.hid hit
          have hFi := HFR.out.alloc (match wr.heap[gm]? with | some (.map _ clock) => .mapIter (some gm) clock #[] clock | _ => .mapIter none 0 #[] 0)
          have HFI := Lib.hid hFi
          clear hit hFi hlen hgi hib hsz2
          generalize wr.alloc (match wr.heap[gm]? with | some (.map _ clock) => .mapIter (some gm) clock #[] clock | _ => .mapIter none 0 #[] 0) = wi at *
          go_wp2_with fail
          go_loopg [12] cnt0 (fun k s12 wr => ∃ done : List Int, Iter wr ib gm (fun k => if k ∈ l then some (.int .i64 1) else none) done k ∧ (∀ x ∈ done, x ∈ l) ∧ IMap wr bm (fun k => if k ∈ done then none else f k) ∧ Only w wr fun b => b = bm)
          case atStart => exact ⟨[], HIT.out, by simp, by simpa using HM.out.only HFI.out (fun q => q), HFI.out.mono fun _ _ q => q.elim⟩
          case round =>
            obtain ⟨done, hit, hdl, hmd2, hon⟩ := hrel
            have HIT2 := Lib.hid hit
            have HDL := Lib.hid hdl
            have HM2 := Lib.hid hmd2
            have HON := Lib.hid hon
            clear hit hdl hmd2 hon
            have hdone : (∀ x, (if x ∈ l then some (Value.int .i64 1) else none) ≠ none → x ∈ done) → ∀ x, x ∈ done ↔ x ∈ l := by
              intro hd x
              refine ⟨HDL.out x, fun hx => hd x ?_⟩
              rw [if_pos hx]
              simp
            have HDN := Lib.hid hdone
            clear hdone
            go_wp2_with (first
              | (at_next; refine wpl_next rfl _ rfl rfl HIT2.out hibg (fun hd => ?_) (fun k v w1 cnt1 h1 h2 h3 h4 h5 h6 => ?_); any_goals (first | (have HD := Lib.hid (HDN.out hd); clear hd) | (have HT5 := Lib.hid h5; have HI3 := Lib.hid h3; have HK1 := Lib.hid h1; have hon1 := HON.out.trans (h5.only (S := fun b => b = ib) rfl) (fun b q => .inr (by have e : b = ib := q; omega)); have HON1 := Lib.hid hon1; have hs1 := hon1.blk H.out hbp; have hc1 : w1.cell? ⟨p, 1, none⟩ = some (.map (some bm)) := blk_cell hs1 rfl; have HM3 := Lib.hid (HM2.out.of_block (h5.2.2.2.2 bm hibm)); clear h1 h3 h5 hon1 hs1)))
              | (at_delete; refine wpl_delete _ rfl _ _ _ _ rfl Try.underlying64 Try.underlying3 bm _ k rfl rfl HM3.out ?_; intro w2 hm4 ht4 hd4; have HM4 := Lib.hid hm4; have HT4 := Lib.hid ht4; clear hm4 ht4 hd4))
            · go_ret
              refine ⟨rfl, ?_⟩
              unfold DropPost
              rw [if_pos rfl]
              have e : (fun k => if k ∈ done then none else f k) = fun k => if k ∈ l then none else f k := by
                funext k
                by_cases q : k ∈ l
                · rw [if_pos q, if_pos ((HD.out k).2 q)]
                · rw [if_neg q, if_neg (fun q' => q ((HD.out k).1 q'))]
              rw [← e]
              exact ⟨HM2.out, HON.out⟩
            · go_roundg cnt1
              case measure => exact h4
              case rel =>
                refine ⟨k :: done, HI3.out.of_blocks (HT4.out.2.2.2.2 gm hgb) (HT4.out.2.2.2.2 ib (fun e => hibm e.symm)), ?_, ?_, HON1.out.trans' (HT4.out.only rfl)⟩
                · intro x hx
                  rcases List.mem_cons.1 hx with rfl | hx
                  · by_cases q : x ∈ l
                    · exact q
                    · have := HK1.out
                      rw [if_neg q] at this
                      cases this
                  · exact HDL.out x hx
                · have e : (fun j => if j = k then none else if j ∈ done then none else f j) = fun j => if j ∈ k :: done then none else f j := by
                    funext j
                    by_cases q : j = k <;> by_cases q2 : j ∈ done <;> simp [q, q2]
                  rw [← e]
                  exact HM4.out
def PM.dropErr (M : PM) (l : List Int) : Int := dErr M.made (fun k => (M.cells k).isSome) l
def PM.drop (M : PM) (l : List Int) : PM := if M.dropErr l = 0 then { M with cells := fun k => if k ∈ l then none else M.cells k } else M

theorem cellIs_both {w : World} {lab : Lab} {k : Int} {a : Option Value} {b : Option (List (Int × Int))} (h : CellIs w lab k a b) : a.isSome = b.isSome := by
  cases a <;> cases b
  · rfl
  · exact h.elim
  · exact h.elim
  · rfl

theorem drop_any {w : World} {p : Nat} {lab : Lab} {M : PM} (h : MemAt w p lab M) (A : Option Addr) (n C : Nat) (l : List Int) (hl : Ints w A n l) (hn : n ≤ 9223372036854775807) (hmd : M.made < Lim) :
    Calls Try.prog 38 #[.pointer (some ⟨p, 0, none⟩), .slice A n C] w fun e w' => e = .returned (.int .i64 (M.dropErr l)) ∧ MemAt w' p lab (M.drop l) ∧ Only w w' fun b => lab b ≠ none := by
  obtain ⟨gb, bm, fv, vs, f, h⟩ := h
  have hf : (fun k => (f k).isSome) = fun k => (M.cells k).isSome := funext fun k => cellIs_both (h.cells k)
  have hr : dErr M.made (fun k => (f k).isSome) l = M.dropErr l := by rw [hf]; rfl
  refine (drop_walk w p bm _ _ M.made f A n C l h.self h.map hl hn hmd fun k v hk => ?_).mono ?_
  · have hc := h.cells k
    rw [hk] at hc
    cases hm : M.cells k with
    | none => rw [hm] at hc; exact hc.elim
    | some l' =>
      rw [hm] at hc
      obtain ⟨cb, e, _⟩ := hc
      exact ⟨_, _, e⟩
  · rintro e w' ⟨rfl, hp⟩
    rw [hr] at hp ⊢
    refine ⟨rfl, ?_⟩
    unfold DropPost at hp
    unfold PM.drop
    by_cases h0 : M.dropErr l = 0
    · rw [if_pos h0] at hp ⊢
      obtain ⟨him, ho⟩ := hp
      have nb : ∀ {b : Nat} {r : Nat × Int}, lab b = some r → r ≠ (1, 0) → ¬ b = bm := fun hb hne => lab_ne hb h.lmap hne
      refine ⟨⟨gb, bm, fv, vs, _, ⟨ho.blk h.self (nb h.lself (by simp)), h.lself, ho.blk h.glob (nb h.lglob (by simp)), h.lglob, him, h.lmap, fun k => ?_, ho.row h.outer fun g hg => nb (h.louter g hg) (by simp), h.louter, h.len, fun i l' hi => ?_, fun b hb => Nat.lt_of_lt_of_le (h.old b hb) ho.size⟩⟩, ho.mono fun b _ q => ?_⟩
      · dsimp only
        by_cases hk : k ∈ l
        · rw [if_pos hk, if_pos hk]; trivial
        · rw [if_neg hk, if_neg hk]
          exact (h.cells k).only ho fun c hc => nb hc (by simp)
      · obtain ⟨v, h1, h2, h3⟩ := h.inner i l' hi
        exact ⟨v, h1, ho.row h2 fun g hg => nb (h3 g hg) (by simp), h3⟩
      · have e : b = bm := q
        rw [e, h.lmap]
        simp
    · rw [if_neg h0] at hp ⊢
      exact ⟨⟨gb, bm, fv, vs, f, h.fresh hp⟩, hp.mono fun _ _ q => q.elim⟩
end Go.Proofs.Ytabfmoedbnpihaa
