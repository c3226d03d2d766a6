/- Steps towards the law (texts of this seat, put into one). No conditions of its own beyond those that its theorems name. -/
import Derived.Test.YtihjpbalkjhjbaaZE0
import Derived.Deep.RegionLaw
import Derived.BigQuiet
import Derived.Test.YtihjpbalkjhjbaaPTableEndsx1
import Derived.Laws.MakeOwn
import Derived.Test.YtihjpbalkjhjbaaRows
import Derived.Test.YtihjpbalkjhjbaaWWords
import Derived.Deep.Slices
import Derived.ChangeArms
import Derived.SizedLaws
import Derived.ProofKit
import Derived.OpenShut
import Derived.ShutString
import Derived.ChangeOld
import Derived.Below
import Derived.Deep.Fields
import Derived.ChangeSame
namespace Go.Proofs.Ytihjpbalkjhjbaa
open Go.RowKit Go.MapKept Go.MuLone Go.Shelf Go.Proofs.YtihjpbalkjhjbaaW.PrintWords Go.Proofs.Ytihjpbalkjhjbaa.PTableEnds
theorem tinfoOp : (Try.prog.info? 23).map (fun i => (i.zero, i.size, i.bytes)) = some (some (.agg #[(.int .i64 0), (.int .i64 0), (.string ⟨#[]⟩)]), 3, 32) := by kernel_rfl
theorem tinfoPCl : (Try.prog.info? 97).map (fun i => (i.zero, i.size, i.bytes)) = some (some (.pointer none), 1, 8) := by kernel_rfl
/-- what Play leaves -/
def PlayPost (w w' : World) (e : Ending) (l0 : List (List POp)) (scr : List Int) : Prop :=
  ∃ v H, e = .returned v ∧ PlayEnd l0 scr H ∧ HistIs w' w.heap.size v H ∧ Fresh w w'
theorem HistIs.lower {w : World} {base base' : Nat} {v : Value} {H : List PMo} (h : HistIs w base v H) (hb : base' ≤ base) : HistIs w base' v H := by
  obtain ⟨rows, ⟨inner, ho, hr⟩, h2, h3⟩ := h
  exact ⟨rows, ⟨inner, own_lower ho hb, hr⟩, h2, fun j m r q1 q2 => by
    obtain ⟨v7, v8, k1, k2, k3⟩ := h3 j m r q1 q2
    exact ⟨v7, v8, k1, own_lower k2 hb, own_lower k3 hb⟩⟩
/-- behind the making of the first i clients -/
structure MadeIs (w wr : World) (sb : Nat) (vs : Value) (l0 : List (List POp)) (i : Nat) (g : Gh) : Prop where
  st : StIs wr (w.heap.size + 1) sb (initP (l0.take i)) g
  fr : Fresh (w.alloc (.cells #[vs] 27)) wr
theorem MadeIs.box {w wr : World} {sb : Nat} {vs : Value} {l0 : List (List POp)} {i : Nat} {g : Gh} (h : MadeIs w wr sb vs l0 i g) : wr.heap[w.heap.size]? = some (.cells #[vs] 27 (0, 0)) := h.fr.blk (new_blk _) fun q => q
/-- in the rounds -/
structure RoundIs (w wr : World) (sb : Nat) (M : Nat) (S0 : PSt) (r0 : Int × List Int) (S : PSt) (r : Int × List Int) (g : Gh) : Prop where
  pl : Plays S0 r0 S r
  st : StIs wr (w.heap.size + 1) sb S g
  box : ∃ v, wr.heap[w.heap.size]? = some (.cells #[v] 27 (0, 0)) ∧ ScrIs wr w.heap.size v r.2
  fr : Fresh w wr
  inv : PInv M S
  can : 0 ≤ r.1 → canAt S r.1.toNat = true
theorem len_le_sum {l : List POp} : ∀ {l0 : List (List POp)}, l ∈ l0 → l.length ≤ (l0.map List.length).sum
  | [], h => by cases h
  | a :: l0, h => by
    simp only [List.map_cons, List.sum_cons]
    rcases List.mem_cons.1 h with rfl | q
    · omega
    · have := len_le_sum q
      omega
set_option maxRecDepth 100000 in
set_option maxHeartbeats 4000000 in
theorem play_walk (w : World) (A : Option Addr) (c0 : Nat) (l0 : List (List POp)) (hr : Kd.C (Kd.slice 23 k23) w A l0.length l0) (vs : Value) (scr : List Int) (hs : ScrIs w w.heap.size vs scr) (hM : 11 * (l0.map List.length).sum ≤ 16777216) :
    Calls Try.prog 16 #[.slice A l0.length c0, vs] w fun e w' => PlayPost w w' e l0 scr := by
  obtain ⟨io, ho0, hoz0, hoz1, hoz2⟩ := info_parts tinfoOp
  have HIO := Lib.hid (And.intro ho0 (And.intro hoz0 (And.intro hoz1 hoz2)))
  obtain ⟨ic, hc0', hcz0, hcz1, hcz2⟩ := info_parts tinfoPCl
  have HIC := Lib.hid (And.intro hc0' (And.intro hcz0 (And.intro hcz1 hcz2)))
  clear ho0 hoz0 hoz1 hoz2 hc0' hcz0 hcz1 hcz2
  have hlen : l0.length ≤ 9223372036854775807 := hr.2.1
  obtain ⟨Av, cv, rfl⟩ : ∃ Av cv, vs = .slice Av scr.length cv := by
    rcases hs with ⟨q, A, C, q2⟩ | ⟨ib, off, C, q, _⟩
    · exact ⟨A, C, by rw [q2, q]; rfl⟩
    · exact ⟨_, _, q⟩
  have HR := Lib.hid (And.intro hr (And.intro hs hM))
  clear hr hs hM
  obtain ⟨ns, hns⟩ : ∃ ns, ns = scr.length := ⟨_, rfl⟩
  rw [← hns] at HR ⊢
  clear hns
  by_cases hbig : 64 < l0.length
  · have hbI : (64 : Int) < (l0.length : Int) := by omega
    go_enter Try.func16, Try.ntmps16
    go_wp2_with fail
    go_ret
    refine ⟨.slice none 0 0, [], rfl, by unfold PlayEnd; rw [if_pos hbig], ⟨[], OwnRow.none_ _ _ _ _ _, rfl, fun j m r hm => by simp at hm⟩, alloc_only _ _⟩
  · have hbI : ¬ (64 : Int) < (l0.length : Int) := by omega
    have HT := Lib.hid (tnew (w.alloc (.cells #[.slice Av ns cv] 27)))
    go_enter Try.func16, Try.ntmps16
    go_wp2_with fail
    refine HT.out.mono ?_
    rintro e w1 ⟨tb, lab, rfl, htab, hf1, hlab⟩
    obtain ⟨g0, hst0⟩ := StIs.none (base := w.heap.size + 1) htab (fun b q => by have := hlab b q; simpa using this) (by have := hf1.size; simpa using this)
    have HM0 := Lib.hid (show MadeIs w (w1.alloc (.cells (stageC tb (fun _ => false) (.slice none 0 0) (.slice none 0 0)) 96)) w1.heap.size (.slice Av ns cv) l0 0 g0 from ⟨hst0, hf1.alloc _⟩)
    unfold stageC at HM0
    clear htab hf1 hlab hst0 HT
    obtain ⟨sb, hsb⟩ : ∃ sb, sb = w1.heap.size := ⟨_, rfl⟩
    go_wp2_with fail
    rw [← hsb] at HM0 ⊢
    clear hsb
    go_loopw [20] (fun s20 wr => ∃ (i : Nat) (g : Gh), i ≤ l0.length ∧ s20 = .int .i64 i ∧ MadeIs w wr sb (.slice Av ns cv) l0 i g) (fun s20 _ => l0.length - (intOf s20).toNat)
    case atStart => exact ⟨0, g0, Nat.zero_le _, rfl, HM0.out⟩
    case round =>
      obtain ⟨wo, rfl⟩ : ∃ wo : World, wo = wr := ⟨_, rfl⟩
      obtain ⟨i, g, hi, rfl, hm⟩ := hrel
      have HMM := Lib.hid hm
      clear hm
      by_cases hlt : i < l0.length
      · have hlD : decide ((i : Int) < (l0.length : Int)) = true := by simp; omega
        have hB : Below w.heap.size w wo := ((Only.refl w fun _ => False).alloc _ |>.trans' (HMM.out.fr.mono fun _ _ q => q)).below (Nat.le_refl _) fun _ q => q.elim
        obtain ⟨ad, A0, c1, hA, x0, hl0, hC⟩ := at_L3 (Kd.C_below HR.out.1 hB) i (by omega) (by omega)
        subst hA
        simp only [Int.toNat_natCast] at x0 hl0 hC
        obtain ⟨ops, hops⟩ : ∃ ops, ops = rd_L3 l0 (i : Nat) := ⟨_, rfl⟩
        rw [← hops] at x0 hl0 hC
        have hoe : ops = l0[i]'hlt := by rw [hops]; unfold rd_L3; simp [hlt]
        obtain ⟨m, hm⟩ : ∃ m, m = ops.length := ⟨_, rfl⟩
        rw [← hm] at x0 hl0
        have hm1 : m ≤ 9223372036854775807 := by rw [hm]; exact hC.2.1
        have HC := Lib.hid (And.intro hC (And.intro hoe hm))
        obtain ⟨cb, hcb⟩ : ∃ cb, cb = wo.heap.size := ⟨_, rfl⟩
        have hcw : cb ≤ wo.heap.size := by omega
        have hst := FillIs.start wo
        have hwb : w.heap.size + 1 ≤ cb := by
          have := HMM.out.fr.size
          simp at this
          omega
        have HST := Lib.hid hst
        have HCB := Lib.hid hcb
        clear hC hops hoe hm hst hB
        go_wp2_with fail
        rw [← hcb]
        clear hcb
        go_loopw [28] (fun s28 wr => ∃ (j : Nat) (vo : Value), j ≤ m ∧ s28 = .int .i64 j ∧ FillIs wo wr vo ((ops.take j).filter okB)) (fun s28 _ => m - (intOf s28).toNat)
        case atStart => exact ⟨0, _, Nat.zero_le _, rfl, HST.out⟩
        case round =>
          obtain ⟨j, vo, hj, rfl, hf⟩ := hrel
          have HF := Lib.hid hf
          clear hf
          by_cases hlt2 : j < m
          · have hjD : decide ((j : Int) < (m : Int)) = true := by simp; omega
            have hB2 : Below wo.heap.size wo wr := HF.out.fr.below (Nat.le_refl _) fun _ q => q.elim
            obtain ⟨ad2, hA2, y0, y1, y2⟩ := at_T23 (w := wr) (n := ops.length) (Kd.C_below HC.out.1 hB2) j (by omega) (by rw [← HC.out.2.2]; omega)
            subst hA2
            simp only [Int.toNat_natCast] at y0 y1 y2
            obtain ⟨o, ho⟩ : ∃ o, o = rd_T23 ops (j : Nat) := ⟨_, rfl⟩
            rw [← ho] at y0 y1 y2
            have hoe2 : (ops.take (j + 1)).filter okB = (ops.take j).filter okB ++ if okB o = true then [o] else [] := by
              have hjl : j < ops.length := by rw [← HC.out.2.2]; exact hlt2
              have : o = ops[j]'hjl := by rw [ho]; unfold rd_T23; simp [hjl]
              rw [List.take_succ_eq_append_getElem hjl, List.filter_append, ← this]
              congr 1
              by_cases q : okB o = true
              · simp [q]
              · simp [q]
            have HO := Lib.hid hoe2
            clear ho hB2 hoe2
            have hcase : (o.f0 < 1 ∨ (1 ≤ o.f0 ∧ 3 < o.f0)) ∨ (1 ≤ o.f0 ∧ o.f0 ≤ 3) := by omega
            rcases hcase with (hno | ⟨hno1, hno⟩) | ⟨hy1, hy2⟩
            · have hok : okB o = false := by unfold okB; simp; omega
              have HOK := Lib.hid hok
              clear hok
              go_wp2_with fail
              go_roundw
              case rel => exact ⟨j + 1, vo, by omega, by go_num, by rw [HO.out, HOK.out, if_neg (by simp), List.append_nil]; exact HF.out.fresh (alloc_only _ _)⟩
              case measure => simp [intOf]; omega
            · have hok : okB o = false := by unfold okB; simp; omega
              have HOK := Lib.hid hok
              clear hok
              go_wp2_with fail
              go_roundw
              case rel => exact ⟨j + 1, vo, by omega, by go_num, by rw [HO.out, HOK.out, if_neg (by simp), List.append_nil]; exact HF.out.fresh (alloc_only _ _)⟩
              case measure => simp [intOf]; omega
            · have hok : okB o = true := by unfold okB; simp; omega
              have HOK := Lib.hid hok
              clear hok
              go_upto_region 12 with fail
              refine nameW ?_
              intro V hV
              have hfV : FillIs wo V vo ((ops.take j).filter okB) := by rw [hV]; exact HF.out.fresh (alloc_only _ _)
              have hd : V.heap[wr.heap.size]? = some (.cells #[.int .i64 o.f0, .int .i64 o.f1, .string o.f2] 23 (0, 0)) := by rw [hV]; exact new_blk _
              have d0 : V.cell? ⟨wr.heap.size, 0, none⟩ = some (.int .i64 o.f0) := blk_cell hd rfl
              have d1 : V.cell? ⟨wr.heap.size, 1, none⟩ = some (.int .i64 o.f1) := blk_cell hd rfl
              have d2 : V.cell? ⟨wr.heap.size, 2, none⟩ = some (.string o.f2) := blk_cell hd rfl
              have hdl := blk_lt hd
              have hcl := hfV.cl
              rw [← HCB.out] at hcl
              have p0 : V.cell? ⟨cb, 0, none⟩ = some vo := blk_cell hcl rfl
              have hcbl := blk_lt hcl
              obtain ⟨inner, hown0, hreps⟩ := hfV.row
              generalize hfo : (ops.take j).filter okB = fo at *
              have hfl : fo.length ≤ 16777216 := by
                have h1 := List.length_filter_le okB (ops.take j)
                have h2 := List.length_take_le j ops
                have h3 := len_le_sum (l := ops) (l0 := l0) (by rw [HC.out.2.1]; exact List.getElem_mem hlt)
                have h4 := HR.out.2.2
                rw [hfo] at h1
                have h5 : (ops.take j).length ≤ ops.length := by simp; omega
                omega
              obtain ⟨A3, C3, hvo⟩ := own_slice hown0
              subst hvo
              have hne : ∀ b, (Value.slice A3 fo.length C3).ownBlock = some b → b ≠ cb := fun b q e => by
                obtain ⟨cells, q2⟩ := own_cells hown0 q
                rw [e, hcl] at q2
                injection q2 with q2
                injection q2 with _ q2 _
                exact absurd q2 (by decide)
              have HOW := Lib.hid hown0
              have HX := Lib.hid (And.intro hfV (And.intro hreps (And.intro hfo hV)))
              have HNE := Lib.hid (And.intro hne hcl)
              have hbV2 : wo.heap.size ≤ V.heap.size := hfV.fr.size
              clear hfV hd hcl hown0 hreps hfo hV hne y0 y1 y2
              go_region_law
                ((refine step_app _ (by rfl) _ _ _ (by rfl) wo.heap.size 23 io _ 3 32 Try.underlying41 HIO.out.1 HIO.out.2.1 HIO.out.2.2.1 HIO.out.2.2.2 rfl (by omega) (.slice A3 fo.length C3) fo.length inner (by rfl) ((HOW.out.alloc _).drew) V.heap.size 1 1 [.int .i64 o.f0, .int .i64 o.f1, .string o.f2] 23 (0, 0) (by rfl) (new_blk _) (by rfl) (by simp [Value.oneCell']) (by unfold maxLen; omega) (by omega) (by simp; omega) ?_; intro A' C' w3 hown hgrow hat; have hs3 := blk_grown (w := (V.alloc (.cells #[.int .i64 o.f0, .int .i64 o.f1, .string o.f2] 23)).drew) (blk_alloc HNE.out.2 _) hgrow (fun e => HNE.out.1 cb e.symm rfl); have j1 : w3.cell? ⟨cb, 0, none⟩ = some (.slice A3 fo.length C3) := blk_cell hs3 rfl; have j2 := blk_frozen hs3 0; have j3 := blk_lt hs3; have HW := Lib.hid (And.intro hown hgrow); clear hown hgrow hat hs3))
              all_goals (
                go_wp2_with fail
                go_roundw
                case rel =>
                  obtain ⟨hfV, hreps, hfo, hV⟩ := HX.out
                  obtain ⟨hown, hgrow⟩ := HW.out
                  have hg2 : V.grownBy w3 (Value.slice A3 fo.length C3).ownBlock := alloc_grown ⟨hgrow.os, hgrow.tape, hgrow.output, hgrow.size, hgrow.block⟩
                  have hadd := hfV.add (o := o) hreps (A := A') (C := C') (by
                    cases A3 with
                    | none => exact .inl rfl
                    | some a => exact .inr ⟨_, rfl, own_cells HOW.out rfl⟩) (fun g q => (HOW.out.lt g q).1) hown hg2
                  refine ⟨j + 1, .slice A' (fo.length + 1) C', by omega, by go_num, ?_⟩
                  have ho2 := HO.out
                  rw [HOK.out, if_pos rfl] at ho2
                  rw [ho2, HCB.out]
                  exact hadd
                case measure => simp [intOf]; omega)
          · obtain rfl : j = m := by omega
            have hstw := HMM.out.st.fresh HF.out.fr
            have hcl := HF.out.cl
            rw [← HCB.out] at hcl
            have hfo : (ops.take j).filter okB = ops.filter okB := by rw [HC.out.2.2, List.take_length]
            have hil : (initP (l0.take i)).cls.length = i := by rw [init_len, List.length_take]; omega
            have hrow := hstw.crow
            obtain ⟨Ac, Cc, hvc⟩ := own_slice hrow
            have s9 : wr.cell? ⟨sb, 9, none⟩ = some g.vc := blk_cell hstw.blk rfl
            have hsbl := blk_lt hstw.blk
            rw [hil] at hvc hrow
            rw [hvc] at s9 hrow
            generalize hold : ((List.range i).map fun i => Value.pointer (some ⟨g.cb i, 0, none⟩)) = old at hrow
            have hne : ∀ b, (Value.slice Ac i Cc).ownBlock = some b → b ≠ sb := fun b q e => by
              obtain ⟨cells, q2⟩ := own_cells hrow q
              rw [e, hstw.blk] at q2
              injection q2 with q2
              injection q2 with _ q2 _
              exact absurd q2 (by decide)
            have hwr : w.heap.size + 1 ≤ wr.heap.size := by
              have := HF.out.fr.size
              omega
            have HY := Lib.hid (And.intro hstw (And.intro hcl (And.intro hfo (And.intro hil (And.intro hrow (And.intro hvc (And.intro hold hne)))))))
            clear hstw hcl hfo hil hrow hvc hold hne
            go_wp2_with (at_builtin; (refine wpl_app _ rfl _ _ 94 rfl (w.heap.size + 1) 97 ic (.pointer none) 1 8 Try.underlying94 HIC.out.1 HIC.out.2.1 HIC.out.2.2.1 HIC.out.2.2.2 rfl (by decide) (.slice Ac i Cc) i old rfl (row_fresh HY.out.2.2.2.2.1 (alloc_only _ _)) wr.heap.size 1 1 [.pointer (some ⟨cb, 0, none⟩)] 97 (0, 0) rfl (new_blk _) rfl (by simp [Value.oneCell']) (by unfold maxLen; omega) (by omega) (by simp; omega) ?_); intro A4 C4 w4 hown hgrow hat; have hs4 := blk_grown (w := wr.alloc (.cells #[.pointer (some ⟨cb, 0, none⟩)] 97)) (blk_alloc HY.out.1.blk _) hgrow (fun e => HY.out.2.2.2.2.2.2.2 sb e.symm rfl); have j1 : w4.cell? ⟨sb, 9, none⟩ = some g.vc := blk_cell hs4 rfl; have j2 := blk_frozen hs4 9; have j3 := blk_lt hs4; have HW := Lib.hid (And.intro hown hgrow); clear hown hgrow hat hs4)
            go_roundw
            case rel =>
              obtain ⟨hstw, hcl, hfo, hil, hrow, hvc, hold, hne⟩ := HY.out
              obtain ⟨hown, hgrow⟩ := HW.out
              have hfil := HF.out.fresh (alloc_only wr (.cells #[.pointer (some ⟨cb, 0, none⟩)] 97))
              rw [hfo] at hfil
              have hg2 : (wr.alloc (.cells #[.pointer (some ⟨cb, 0, none⟩)] 97)).grownBy w4 g.vc.ownBlock := by rw [hvc]; exact hgrow
              obtain ⟨g', hm⟩ := (hstw.fresh (alloc_only wr (.cells #[.pointer (some ⟨cb, 0, none⟩)] 97))).more (cbn := cb) (by have q := hfil.cl; rw [← HCB.out] at q; exact q) hfil.row.at (fun k hk => by
                rw [HCB.out]
                have := blk_lt (HMM.out.st.cl k _ (List.getElem?_eq_getElem hk)).blk
                omega) hwb (by rw [hil]; omega) (A := A4) (C := C4) (old := old) (by rw [hil]; exact hold.symm) (by rw [hil]; exact hown) hg2
              refine ⟨i + 1, g', by omega, by go_num, ?_, ?_⟩
              · rw [init_take l0 hlt, ← HC.out.2.1]
                rw [hil] at hm
                exact hm
              · refine (((HMM.out.fr.trans' HF.out.fr).alloc _).grown hg2 fun b q => .inr ?_).setCell (p := ⟨sb, 9, none⟩) (.inr ?_) _
                · have := (hstw.crow.lt b q).1
                  simpa using this
                · have := hstw.outS
                  simpa using this
            case measure => simp [intOf]; omega
      · obtain rfl : i = l0.length := by omega
        have hst := HMM.out.st
        rw [List.take_length] at hst
        have hfw : Fresh w wo := (alloc_only w _).trans' HMM.out.fr
        have hscr := HR.out.2.1.keep (base' := w.heap.size) (Nat.le_refl _) (hfw.mono fun _ _ q => q.elim) (Nat.le_refl _)
        have hpk := pick_walk hst _ scr (-1) HMM.out.box hscr (Nat.le_refl _)
        have HPK := Lib.hid hpk
        have HF0 := Lib.hid (And.intro hst hfw)
        clear hst hfw hscr hpk
        go_wp2_with fail
        refine HPK.out.mono ?_
        rintro e w2 ⟨rfl, ⟨v2, hv2, hs2⟩, ho2⟩
        have hR0 : RoundIs w w2 sb (mu (initP l0)) (initP l0) (pickP (initP l0) scr (-1)) (initP l0) (pickP (initP l0) scr (-1)) g :=
          ⟨.refl _ _, HF0.out.1.other HMM.out.box ho2, ⟨v2, hv2, hs2⟩, HF0.out.2.trans ho2 fun b q => .inr (by rw [q]; exact Nat.le_refl _), init_inv l0, pick_can⟩
        have HR0 := Lib.hid hR0
        clear hR0 hv2 hs2 ho2
        go_wp2_with fail
        go_loopg [11] (mu (initP l0)) (fun cnt s11 wr => ∃ (S : PSt) (r : Int × List Int) (g : Gh), cnt = mu S ∧ s11 = .int .i64 r.1 ∧ RoundIs w wr sb (mu (initP l0)) (initP l0) (pickP (initP l0) scr (-1)) S r g)
        case atStart => exact ⟨_, _, g, rfl, rfl, HR0.out⟩
        case round =>
          obtain ⟨S, r, g2, hcnt, rfl, hrd⟩ := hrel
          have HRD := Lib.hid hrd
          have HCN := Lib.hid hcnt
          clear hrd hcnt
          obtain ⟨x, hx⟩ : ∃ x, x = r.1 := ⟨_, rfl⟩
          rw [← hx]
          by_cases hneg : 0 ≤ x
          · have hMM : mu (initP l0) ≤ 16777216 := Nat.le_trans (mu_init l0) HR.out.2.2
            obtain ⟨n, hn⟩ : ∃ n : Nat, x = (n : Int) := ⟨x.toNat, by omega⟩
            have hcan := HRD.out.can (by rw [← hx]; exact hneg)
            rw [← hx, hn, Int.toNat_natCast] at hcan
            obtain ⟨c, o, rest, hc, hops, hok, hnx⟩ := next_valid HRD.out.inv hcan
            have hi1 := HRD.out.inv.hist
            have hi2 := HRD.out.inv.keys
            have hstep := step_walk HRD.out.st hc hops hok (by omega) (by omega)
            rw [← hnx, ← hn] at hstep
            obtain ⟨hI, hmu, hcl⟩ := HRD.out.inv.step hc hops
            rw [← hnx] at hI hmu hcl
            have HST := Lib.hid hstep
            have HI := Lib.hid (And.intro hI (And.intro hmu (And.intro hn hx)))
            clear hstep hI hmu hcl hcan hc hops hok hnx hi1 hi2 hn hx hMM
            go_wp2_with fail
            refine HST.out.mono ?_
            rintro e w3 ⟨rfl, g3, q1, q2, q3⟩
            obtain ⟨v, hv, hs⟩ := HRD.out.box
            have hv3 := q3.blk hv (by omega)
            have hs3 := hs.keep (base' := w.heap.size + 1) HRD.out.fr.size q3 (by omega)
            have HPK := Lib.hid (pick_walk q1 v r.2 x hv3 hs3 (Nat.le_refl _))
            have HQ := Lib.hid (And.intro q1 (And.intro q3 hv3))
            clear q1 q2 q3 hv hs hv3 hs3
            go_wp2_with fail
            refine HPK.out.mono ?_
            rintro e w4 ⟨rfl, ⟨v4, hv4, hs4⟩, ho4⟩
            have hR4 : RoundIs w w4 sb (mu (initP l0)) (initP l0) (pickP (initP l0) scr (-1)) (nextP S n) (pickP (nextP S n) r.2 x) g3 := by
              obtain ⟨hI, hmu, hn, hx⟩ := HI.out
              have hpl := HRD.out.pl.step (by rw [← hx]; exact hneg)
              rw [← hx, hn, Int.toNat_natCast, ← hn] at hpl
              exact ⟨hpl, HQ.out.1.other HQ.out.2.2 ho4, ⟨v4, hv4, hs4⟩, (HRD.out.fr.trans HQ.out.2.1 fun b q => .inr (by omega)).trans ho4 fun b q => .inr (by rw [q]; exact Nat.le_refl _), hI, pick_can⟩
            have HR4 := Lib.hid hR4
            clear hR4 hv4 hs4 ho4
            go_wp2_with fail
            go_roundg (mu (nextP S n))
            case measure => rw [HCN.out]; exact HI.out.2.1
            case rel => exact ⟨_, _, g3, rfl, rfl, HR4.out⟩
          · have s10 : wr.cell? ⟨sb, 10, none⟩ = some g2.vh := blk_cell HRD.out.st.blk rfl
            have HX := Lib.hid hx
            have hsbl := blk_lt HRD.out.st.blk
            clear hx
            go_wp2_with fail
            go_ret
            have hst := HRD.out.st
            exact ⟨g2.vh, S.hist, rfl, by unfold PlayEnd; rw [if_neg hbig]; exact ⟨S, r, HRD.out.pl, by rw [← HX.out]; omega, rfl⟩, HistIs.lower ⟨g2.rows, hst.hrow, hst.hlen, hst.hmem⟩ (by omega), HRD.out.fr⟩
end Go.Proofs.Ytihjpbalkjhjbaa
namespace Go.Proofs.Ytihjpbalkjhjbaa
open Go.RowKit Go.MapKept Go.MuLone Go.Shelf Go.Proofs.YtihjpbalkjhjbaaW.PrintWords
theorem Plays.trans {S0 S1 S2 : PSt} {r0 r1 r2 : Int × List Int} (h : Plays S0 r0 S1 r1) (k : Plays S1 r1 S2 r2) : Plays S0 r0 S2 r2 := by
  induction k with
  | refl => exact h
  | step _ hn ih => exact ih.step hn
theorem Plays.head {S0 S : PSt} {r0 r : Int × List Int} (h : Plays S0 r0 S r) : (S = S0 ∧ r = r0) ∨ (0 ≤ r0.1 ∧ Plays (nextP S0 r0.1.toNat) (pickP (nextP S0 r0.1.toNat) r0.2 r0.1) S r) := by
  induction h with
  | refl => exact .inl ⟨rfl, rfl⟩
  | step h hn ih =>
    rcases ih with ⟨rfl, rfl⟩ | ⟨q, k⟩
    · exact .inr ⟨hn, .refl _ _⟩
    · exact .inr ⟨q, k.step hn⟩
theorem Plays.rest {S0 S S' : PSt} {r0 r r' : Int × List Int} (h : Plays S0 r0 S r) : Plays S0 r0 S' r' → r'.1 < 0 → Plays S r S' r' := by
  induction h with
  | refl => exact fun k _ => k
  | step h hn ih =>
    intro k hr
    rcases (ih k hr).head with ⟨rfl, rfl⟩ | ⟨_, q⟩
    · omega
    · exact q
theorem Plays.one {S0 S S' : PSt} {r0 r r' : Int × List Int} (h : Plays S0 r0 S r) (hr : r.1 < 0) (k : Plays S0 r0 S' r') (hr' : r'.1 < 0) : S = S' := by
  rcases (h.rest k hr').head with ⟨q, _⟩ | ⟨q, _⟩
  · exact q.symm
  · omega
theorem PlayEnd.one {l0 : List (List POp)} {scr : List Int} {H H' : List PMo} (h : PlayEnd l0 scr H) (k : PlayEnd l0 scr H') : H = H' := by
  unfold PlayEnd at h k
  by_cases hl : 64 < l0.length
  · rw [if_pos hl] at h k
    rw [h, k]
  · rw [if_neg hl] at h k
    obtain ⟨S, r, h1, h2, h3⟩ := h
    obtain ⟨S', r', k1, k2, k3⟩ := k
    rw [h3, k3, h1.one h2 k1 k2]
/-- the play, by a number of rounds -/
def runP : Nat → PSt → Int × List Int → PSt × (Int × List Int)
  | 0, S, r => (S, r)
  | n + 1, S, r => if r.1 < 0 then (S, r) else runP n (nextP S r.1.toNat) (pickP (nextP S r.1.toNat) r.2 r.1)
theorem runP_plays : ∀ (n : Nat) (S : PSt) (r : Int × List Int), Plays S r (runP n S r).1 (runP n S r).2
  | 0, S, r => .refl S r
  | n + 1, S, r => by
    unfold runP
    by_cases h : r.1 < 0
    · rw [if_pos h]
      exact .refl S r
    · rw [if_neg h]
      exact ((Plays.refl S r).step (by omega)).trans (runP_plays n _ _)
theorem PlayEnd.run {l0 : List (List POp)} {scr : List Int} {H : List PMo} (h : PlayEnd l0 scr H) (n : Nat) (hl : ¬ 64 < l0.length) (hr : (runP n (initP l0) (pickP (initP l0) scr (-1))).2.1 < 0) : H = (runP n (initP l0) (pickP (initP l0) scr (-1))).1.hist :=
  h.one (by
    unfold PlayEnd
    rw [if_neg hl]
    exact ⟨_, _, runP_plays n _ _, hr, rfl⟩)
/-- the play of the one call -/
def liveO : POp := ⟨1, 1, ⟨#[120]⟩⟩
theorem live_end {H : List PMo} (h : PlayEnd [[liveO]] [] H) : H = [⟨0, true, liveO, zRep⟩, ⟨0, false, liveO, ⟨true, ⟨#[]⟩, [], []⟩⟩] := by
  have e1 : (runP 4 (initP [[liveO]]) (pickP (initP [[liveO]]) [] (-1))).2.1 = -1 := by kernel_rfl
  have e2 : (runP 4 (initP [[liveO]]) (pickP (initP [[liveO]]) [] (-1))).1.hist = [⟨0, true, liveO, zRep⟩, ⟨0, false, liveO, ⟨true, ⟨#[]⟩, [], []⟩⟩] := by kernel_rfl
  exact (h.run 4 (by decide) (by rw [e1]; decide)).trans e2
end Go.Proofs.Ytihjpbalkjhjbaa
namespace Go.Proofs.Ytihjpbalkjhjbaa
open Go.RowKit Go.MapKept Go.MuLone Go.Shelf Go.Proofs.YtihjpbalkjhjbaaW.PrintWords Go.Proofs.Ytihjpbalkjhjbaa.PTableEnds
theorem reps_map {α : Type} (f : α → Value) (l : List α) : Reps (fun (x : α) cs => cs = [f x]) 1 l (l.map f) := by
  refine ⟨by simp, fun j p hp => ?_⟩
  have hj := (List.getElem?_eq_some_iff.1 hp).1
  refine List.ext_getElem? fun k => ?_
  rw [List.getElem?_take, Nat.mul_one]
  by_cases hk : k < 1
  · obtain rfl : k = 0 := by omega
    rw [if_pos (by omega), List.getElem?_drop, Nat.add_zero, List.getElem?_map, hp]
    rfl
  · rw [if_neg hk, List.getElem?_eq_none (by simp; omega)]
theorem IR.reads {w : World} {base : Nat} {v : Value} {l : List Int} (h : IR w base v l) : ∃ A C, v = .slice A l.length C ∧ l.length ≤ C ∧ (Kd.int .i64).C w A l.length l :=
  OwnRow.reads (R := fun (x : Int) cs => cs = [Value.int .i64 x]) ⟨_, h, reps_map _ l⟩
theorem SR.reads {w : World} {base : Nat} {v : Value} {l : List ByteArray} (h : SR w base v l) : ∃ A C, v = .slice A l.length C ∧ l.length ≤ C ∧ Kd.string.C w A l.length l :=
  OwnRow.reads (R := fun (x : ByteArray) cs => cs = [Value.string x]) ⟨_, h, reps_map _ l⟩
theorem HistIs.row {w : World} {base : Nat} {v : Value} {H : List PMo} (h : HistIs w base v H) : OwnRow (fun m cs => MoIs w base m cs) 52 9 w base v H := by
  obtain ⟨rows, ⟨inner, ho, hr⟩, hl, hm⟩ := h
  refine ⟨inner, by rw [← hl]; exact ho, by rw [← hl]; exact hr.1, fun j m hj => ?_⟩
  have hjl : j < rows.length := by rw [hl]; exact (List.getElem?_eq_some_iff.1 hj).1
  have := hr.2 j _ (List.getElem?_eq_getElem hjl)
  rw [this]
  exact hm j m _ hj (List.getElem?_eq_getElem hjl)
theorem MoIs.reads {w : World} {base : Nat} {m : PMo} {r : List Value} (h : MoIs w base m r) : k52.K w m r := by
  obtain ⟨v7, v8, rfl, h7, h8⟩ := h
  obtain ⟨A7, c7, rfl, l7, g7⟩ := h7.reads
  obtain ⟨A8, c8, rfl, l8, g8⟩ := h8.reads
  exact k52_mk w m l7 g7 l8 g8
theorem HistIs.reads {w : World} {base : Nat} {v : Value} {H : List PMo} (h : HistIs w base v H) : ∃ A C, v = .slice A H.length C ∧ H.length ≤ C ∧ k52.C w A H.length H :=
  OwnRow.reads (h.row.imp_ fun _ _ q => q.reads)
/-- a row of calls in one block -/
theorem ops_lit {w : World} {b : Nat} {ops : List POp} {cells : Array Value} (hb : w.heap[b]? = some (.cells cells 23 (0, 0))) (hl : ops.length ≤ 9223372036854775807)
    (h : ∀ j o, ops[j]? = some o → cells[j * 3]? = some (.int .i64 o.f0) ∧ cells[j * 3 + 1]? = some (.int .i64 o.f1) ∧ cells[j * 3 + 2]? = some (.string o.f2)) : k23.C w (some ⟨b, 0, none⟩) ops.length ops := by
  refine ⟨rfl, hl, fun _ => ⟨⟨b, 0, none⟩, rfl, fun j o hj => ⟨opV o, rfl, k23_mk w o, fun i u hu => ?_⟩⟩⟩
  obtain ⟨h0, h1, h2⟩ := h j o hj
  have e : (⟨b, 0, none⟩ : Addr).add (j * 3 + i) = ⟨b, j * 3 + i, none⟩ := by rw [Addr.add_lit, Nat.zero_add]
  show w.cell? ((⟨b, 0, none⟩ : Addr).add (j * 3 + i)) = some u
  rw [e]
  refine blk_cell hb ?_
  rcases i with _ | _ | _ | i
  · simp only [opV, List.getElem?_cons_zero, Option.some.injEq] at hu
    rw [← hu]; exact h0
  · simp only [opV, List.getElem?_cons_succ, List.getElem?_cons_zero, Option.some.injEq] at hu
    rw [← hu]; exact h1
  · simp only [opV, List.getElem?_cons_succ, List.getElem?_cons_zero, Option.some.injEq] at hu
    rw [← hu]; exact h2
  · simp [opV] at hu
/-- a row of one row of calls -/
theorem rows_lit {w : World} {b b1 n C : Nat} {ops : List POp} (hb : w.heap[b]? = some (.cells #[.slice (some ⟨b1, 0, none⟩) n C] 41 (0, 0))) (hn : n = ops.length) (hC : ops.length ≤ C) (h : k23.C w (some ⟨b1, 0, none⟩) ops.length ops) :
    Kd.C (Kd.slice 23 k23) w (some ⟨b, 0, none⟩) 1 [ops] := by
  refine ⟨rfl, by omega, fun _ => ⟨⟨b, 0, none⟩, rfl, fun j o hj => ?_⟩⟩
  have hj0 : j = 0 := by
    have := (List.getElem?_eq_some_iff.1 hj).1
    simp at this
    omega
  subst hj0
  have ho : ops = o := by simpa using hj
  subst ho
  refine ⟨[.slice (some ⟨b1, 0, none⟩) ops.length C], rfl, ⟨_, _, rfl, hC, h⟩, fun i u hu => ?_⟩
  have hi0 : i = 0 := by
    have := (List.getElem?_eq_some_iff.1 hu).1
    simp at this
    omega
  subst hi0
  have hu' : Value.slice (some ⟨b1, 0, none⟩) ops.length C = u := by simpa using hu
  subst hu'
  have e : (⟨b, 0, none⟩ : Addr).add (0 * 1 + 0) = ⟨b, 0, none⟩ := rfl
  show w.cell? ((⟨b, 0, none⟩ : Addr).add (0 * 1 + 0)) = _
  rw [e]
  exact blk_cell hb (by simp [hn])
set_option maxRecDepth 100000 in
set_option maxHeartbeats 2000000 in
theorem lives_walk (w : World) : Calls Try.prog 13 #[] w fun e w' => e = .returned (.bool true) ∧ Fresh w w' := by
  go_enter Try.func13, Try.ntmps13
  go_wp2_with fail
  refine (tnew _).mono ?_
  rintro e w1 ⟨ta, la, rfl, Ta, Fa, Na⟩
  have H1 := Lib.hid (And.intro Ta (And.intro Fa Na))
  clear Ta Fa Na
  go_wp2_with fail
  refine (tpublish_new H1.out.1 5 _ rfl).mono ?_
  rintro e w2 ⟨rfl, la2, T2, X2⟩
  have H2 := Lib.hid (And.intro T2 (And.intro (H1.out.2.1.trans X2.only fun b q => .inr (H1.out.2.2 b q)) fun b (q : la2 b ≠ none) => show w.heap.size ≤ b from by
    have := H1.out.2.1.size
    rcases X2.new b q with q | q
    · exact H1.out.2.2 b q
    · omega))
  clear T2 X2
  go_wp2_with fail
  refine (tpublish_old H2.out.1 5 _ _ (if_pos rfl)).mono ?_
  rintro e w3 ⟨rfl, T3, X3⟩
  have H3 := Lib.hid (And.intro T3 (H2.out.2.1.trans X3.only fun b q => .inr (H2.out.2.2 b q)))
  clear T3 X3
  go_wp2_with fail
  refine (tlookup_some H3.out.1 5 _ (if_pos rfl)).mono ?_
  rintro e w4 ⟨rfl, T4, X4⟩
  have H4 := Lib.hid (H3.out.2.trans X4.only fun b q => .inr (H2.out.2.2 b q))
  clear T4 X4
  go_wp2_with fail
  have hp := play_walk ((w4.alloc (.cells #[.int .i64 1, .int .i64 1, .string ⟨#[120]⟩] 23)).alloc (.cells #[.slice (some ⟨w4.heap.size, 0, none⟩) 1 1] 41)) (some ⟨w4.heap.size + 1, 0, none⟩) 1 [[liveO]]
    (rows_lit (b := w4.heap.size + 1) (b1 := w4.heap.size) (n := 1) (C := 1) (by
      have := new_blk (w := w4.alloc (.cells #[.int .i64 1, .int .i64 1, .string ⟨#[120]⟩] 23)) (.cells #[.slice (some ⟨w4.heap.size, 0, none⟩) 1 1] 41)
      simpa using this) rfl (Nat.le_refl _) (ops_lit (cells := #[.int .i64 1, .int .i64 1, .string ⟨#[120]⟩]) (blk_alloc (new_blk _) _) (by decide) (fun j o hj => by
        have hj0 : j = 0 := by
          have := (List.getElem?_eq_some_iff.1 hj).1
          simp at this
          omega
        subst hj0
        have : liveO = o := by simpa using hj
        subst this
        exact ⟨rfl, rfl, rfl⟩)))
    (.slice none 0 0) [] (.inl ⟨rfl, _, _, rfl⟩) (by decide)
  refine hp.mono ?_
  clear hp
  rintro e w5 ⟨v, H, rfl, hend, hhist, hf⟩
  obtain rfl := live_end hend
  obtain ⟨A, C, rfl, hlC, hC⟩ := hhist.reads
  obtain ⟨ad, A7, c7, A8, c8, hA, x0, x1, x2, x3, x4, x5, x6, x7, x8, _, _, _, _⟩ := at_T52 hC 0 (by decide) (by decide)
  obtain ⟨ad', A7', c7', A8', c8', hA', y0, y1, y2, y3, y4, y5, y6, y7, y8, _, _, _, _⟩ := at_T52 hC 1 (by decide) (by decide)
  subst hA
  injection hA' with hA'
  subst hA'
  have HF := Lib.hid (((H4.out.alloc _).alloc _).trans' hf)
  have x1' : w5.cell? ⟨ad.block, ad.off + 1, none⟩ = some (.bool true) := x1
  have y5' : w5.cell? ⟨(ad.add 9).block, (ad.add 9).off + 5, none⟩ = some (.bool true) := y5
  have y5a : w5.cell? ⟨ad.block, ad.off + 9 + 5, none⟩ = some (.bool true) := y5
  have y5b : w5.cell? ⟨ad.block, ad.off + 14, none⟩ = some (.bool true) := y5
  clear hend hhist hf hC x0 x1 x2 x3 x4 x5 x6 x7 x8 y0 y1 y2 y3 y4 y5 y6 y7 y8
  go_wp2_with fail
  go_ret
  exact ⟨rfl, HF.out⟩
end Go.Proofs.Ytihjpbalkjhjbaa
namespace Go.Proofs.Ytihjpbalkjhjbaa
open Go.RowKit Go.MapKept Go.MuLone Go.Shelf Go.Proofs.YtihjpbalkjhjbaaW.PrintWords Go.Proofs.YtihjpbalkjhjbaaW.PrintLast Go.Proofs.YtihjpbalkjhjbaaW.PrintMore Go.Proofs.Ytihjpbalkjhjbaa.PTableEnds
theorem eqOp (d : Nat) (w : World) (x0 y0 : Int) (x1 y1 : Int) (x2 y2 : ByteArray) :
    (Op.equalIn (d + 2) 23 (.agg #[.int .i64 x0, .int .i64 x1, .string x2]) (.agg #[.int .i64 y0, .int .i64 y1, .string y2])).run Try.prog w = .ok (x0 == y0 && (x1 == y1 && (x2.toList == y2.toList))) w := by
  refine eqA_of Try.underlying23 (by kernel_rfl) ?_
  refine eqf_cons (by rfl) (by go_simp; rfl) (by go_simp; rfl) (by go_simp) ?_
  refine eqf_cons (by rfl) (by go_simp; rfl) (by go_simp; rfl) (by go_simp) ?_
  exact eqf_last (by rfl) (by go_simp; rfl) (by go_simp; rfl) (by go_simp)
abbrev PCall := S57
abbrev mo (H : List PMo) (i : Nat) : PMo := rd_T52 H (i : Nat)
/-- each beginning has its end at nx, the next of its client -/
structure Good (H : List PMo) (nx : Nat → Nat) : Prop where
  lt : ∀ i, i < H.length → (mo H i).f1 = true → i < nx i ∧ nx i < H.length
  cl : ∀ i, i < H.length → (mo H i).f1 = true → (mo H (nx i)).f0 = (mo H i).f0
  en : ∀ i, i < H.length → (mo H i).f1 = true → (mo H (nx i)).f1 = false
  op : ∀ i, i < H.length → (mo H i).f1 = true → (mo H (nx i)).f2 = (mo H i).f2
  no : ∀ i, i < H.length → (mo H i).f1 = true → ∀ k, i < k → k < nx i → (mo H k).f0 ≠ (mo H i).f0
def callL (H : List PMo) (nx : Nat → Nat) : Nat → List PCall
  | 0 => []
  | i + 1 => callL H nx i ++ if (mo H i).f1 = true then [⟨(i : Int), (nx i : Nat), (mo H i).f2, (mo H (nx i)).f3⟩] else []
def endC (H : List PMo) : Nat → Nat
  | 0 => 0
  | i + 1 => endC H i + if (mo H i).f1 = true then 0 else 1
theorem endC_le (H : List PMo) : ∀ i, endC H i ≤ i
  | 0 => Nat.le_refl _
  | i + 1 => by
    have := endC_le H i
    unfold endC
    split <;> omega
theorem callL_len (H : List PMo) (nx : Nat → Nat) : ∀ i, (callL H nx i).length + endC H i = i
  | 0 => rfl
  | i + 1 => by
    have := callL_len H nx i
    unfold callL endC
    split <;> simp <;> omega
theorem info_call11 : (Try.prog.info? 57).map (fun i => (i.zero, i.size, i.bytes)) = some (some (.agg #[(.int .i64 0), (.int .i64 0), (.int .i64 0), (.int .i64 0), (.string ⟨#[]⟩), (.bool false), (.string ⟨#[]⟩), (.slice none 0 0), (.slice none 0 0)]), 9, 120) := by kernel_rfl
/-- the call whose end is sought, from place k on -/
def CAt (w wr : World) (b : Nat) (H : List PMo) (i n k : Nat) : Prop :=
  ∃ (tt : Int) (r : PRep) (A7 : Option Addr) (c7 : Nat) (A8 : Option Addr) (c8 : Nat), wr.heap[b]? = some (.cells #[.int .i64 i, .int .i64 tt, .int .i64 (mo H i).f2.f0, .int .i64 (mo H i).f2.f1, .string (mo H i).f2.f2, .bool r.f0, .string r.f1, .slice A7 r.f2.length c7, .slice A8 r.f3.length c8] 57 (0, 0)) ∧
    (r.f2.length ≤ c7 ∧ (Kd.int .i64).C w A7 r.f2.length r.f2 ∧ r.f3.length ≤ c8 ∧ Kd.string.C w A8 r.f3.length r.f3) ∧
    ((tt = -1 ∧ r = zRep ∧ k ≤ n) ∨ (tt = n ∧ r = (mo H n).f3))
theorem below_set {g : Nat} {w w1 : World} (h : Below w.heap.size w w1) (hg : w.heap.size ≤ g) (j : Nat) (u : Value) : Below w.heap.size w (w1.setCell ⟨g, j, none⟩ u) :=
  h.trans ((Only.setCell (S := fun b => b = g) (Only.refl _ _) (p := ⟨g, j, none⟩) (.inl rfl) u).below (below_size h) (fun b e => by subst e; exact hg))
set_option maxRecDepth 200000 in
set_option maxHeartbeats 4000000 in
theorem calls_walk (w : World) (A : Option Addr) (c : Nat) (H : List PMo) (nx : Nat → Nat) (hr : k52.C w A H.length H) (hl : H.length ≤ 16777216) (hg : Good H nx) (hn : endC H H.length = (callL H nx H.length).length) :
    Calls Try.prog 25 #[.slice A H.length c] w fun e w' => Below w.heap.size w w' ∧ ∃ v, e = .returned (.tuple #[v, .bool true]) ∧ OwnRow (k57.K w) 57 9 w' w.heap.size v (callL H nx H.length) := by
  have HR := Lib.hid hr
  have HG := Lib.hid hg
  have HN := Lib.hid hn
  clear hr hg hn
  have hu45 := Try.underlying52
  have hu40 := Try.underlying23
  have hu43 := Try.underlying50
  go_enter Try.func25, Try.ntmps25
  go_wp2_with fail
  go_loopw [4, 5, 6] (fun s4 s5 s6 wr => ∃ (i : Nat), i ≤ H.length ∧ s5 = .int .i64 (endC H i) ∧ s6 = .int .i64 i ∧ OwnRow (k57.K w) 57 9 wr w.heap.size s4 (callL H nx i) ∧ Below w.heap.size w wr) (fun _ _ s6 _ => H.length - (intOf s6).toNat)
  case atStart => exact ⟨0, Nat.zero_le _, rfl, rfl, OwnRow.none_ _ _ _ _ _, Below.refl _ _⟩
  case round =>
    obtain ⟨wO, rfl⟩ : ∃ wO : World, wO = wr := ⟨_, rfl⟩
    obtain ⟨i, hi, rfl, rfl, hrow, hb⟩ := hrel
    obtain ⟨A6, c6, rfl, h6⟩ := hrow.slice_
    have HS := Lib.hid (And.intro hrow (And.intro hb h6))
    have hcl := callL_len H nx i
    have hel := endC_le H i
    clear hrow hb h6
    by_cases hlt : i < H.length
    · have hlD : decide ((i : Int) < (H.length : Int)) = true := by simp; omega
      obtain ⟨ad, A7, c7, A8, c8, hA, x0, x1, x2, x3, x4, x5, x6, x7, x8, h7, g7, h8, g8⟩ := at_T52 (w := wO) (Kd.C_below HR.out HS.out.2.1) i (by omega) (by omega)
      subst hA
      simp only [Int.toNat_natCast] at x0 x1 x2 x3 x4 x5 x6 x7 x8
      clear h7 g7 h8 g8
      cases hb1 : (mo H i).f1 with
      | false =>
        have hs : endC H (i + 1) = endC H i + 1 := by show endC H i + _ = _; rw [hb1]; rfl
        have hc : callL H nx (i + 1) = callL H nx i := by show callL H nx i ++ _ = _; rw [hb1]; simp
        rw [show (rd_T52 H (i : Nat)).f1 = false from hb1] at x1
        have HX := Lib.hid (And.intro hs hc)
        clear hb1 hs hc x0 x2 x3 x4 x5 x6 x7 x8
        go_wp2_with fail
        go_roundw
        case rel => exact ⟨i + 1, by omega, by rw [HX.out.1]; go_num, by go_num, by rw [HX.out.2]; exact HS.out.1, HS.out.2.1⟩
        case measure => simp [intOf]; omega
      | true =>
        have hc : callL H nx (i + 1) = callL H nx i ++ [⟨(i : Int), (nx i : Nat), (mo H i).f2, (mo H (nx i)).f3⟩] := by show callL H nx i ++ _ = _; rw [if_pos hb1]
        have hs : endC H (i + 1) = endC H i := by show endC H i + _ = _; rw [if_pos hb1]; rfl
        obtain ⟨n, hnx⟩ : ∃ n, n = nx i := ⟨_, rfl⟩
        have g1 := HG.out.lt i hlt hb1
        have g2 := HG.out.cl i hlt hb1
        have g3 := HG.out.en i hlt hb1
        have g4 := HG.out.op i hlt hb1
        have g5 := HG.out.no i hlt hb1
        rw [← hnx] at g1 g2 g3 g4 g5 hc
        obtain ⟨m, hm⟩ : ∃ m, m = mo H i := ⟨_, rfl⟩
        rw [show (rd_T52 H (i : Nat)) = m from hm.symm] at x0 x1 x2 x3 x4 x5 x6 x7 x8
        rw [show m.f1 = true by rw [hm]; exact hb1] at x1
        have hin := g1.1
        have hnl := g1.2
        have HX := Lib.hid (And.intro hs (And.intro hc (And.intro g2 (And.intro g3 (And.intro g4 (And.intro g5 hm))))))
        clear hb1 hs hc hnx g1 g2 g3 g4 g5 hm x5 x6 x7 x8
        go_wp2_with fail
        clear x0 x2 x3 x4
        go_loopw [8] (fun s8 wt => ∃ (k : Nat), i + 1 ≤ k ∧ k ≤ H.length ∧ s8 = .int .i64 k ∧ Below wO.heap.size wO wt ∧ CAt w wt wO.heap.size H i n k) (fun s8 _ => H.length - (intOf s8).toNat)
        case atStart => exact ⟨i + 1, Nat.le_refl _, hlt, by simp, below_alloc (Below.refl _ _) _, -1, zRep, none, 0, none, 0, by rw [← HX.out.2.2.2.2.2.2]; exact new_blk _, ⟨Nat.le_refl _, Kd.C_nil _ _, Nat.le_refl _, Kd.C_nil _ _⟩, .inl ⟨rfl, rfl, hin⟩⟩
        case round =>
          obtain ⟨k, hk0, hk, rfl, hbl, tt, r, B7, d7, B8, d8, hcb, hlens, hto⟩ := hrel
          rw [← HX.out.2.2.2.2.2.2] at hcb
          have HBL := Lib.hid hbl
          have HLE := Lib.hid hlens
          have HBW := Lib.hid (below_step HS.out.2.1 hbl)
          have z1 := blk_cell hcb (i := 1) rfl
          have HCB := Lib.hid hcb
          clear hbl hlens
          rcases hto with ⟨rfl, rfl, hkn⟩ | ⟨rfl, rfl⟩
          · have hkl : k < H.length := by omega
            have hkD : decide ((k : Int) < (H.length : Int)) = true := by simp; omega
            obtain ⟨ad', A7', c7', A8', c8', hadd, x0, x1, x2, x3, x4, x5, x6, x7, x8, h7, g7, h8, g8⟩ := at_T52 HR.out k (by omega) (by omega)
            cases hadd
            have mv : ∀ {p : Addr} {u : Value}, w.cell? p = some u → wr.cell? p = some u := fun h => (HBW.out.cell (World.block_lt_of_cell? w _ h)).trans h
            replace x0 := mv x0
            replace x1 := mv x1
            replace x2 := mv x2
            replace x3 := mv x3
            replace x4 := mv x4
            replace x5 := mv x5
            replace x6 := mv x6
            replace x7 := mv x7
            replace x8 := mv x8
            clear mv
            obtain ⟨ad', _, _, _, _, hadd, y0, _, y2, y3, y4, _⟩ := at_T52 (w := wr) (Kd.C_below HR.out HBW.out) i (by omega) (by omega)
            cases hadd
            simp only [Int.toNat_natCast] at x0 x1 x2 x3 x4 x5 x6 x7 x8 y0 y2 y3 y4
            rw [show rd_T52 H (i : Nat) = m from HX.out.2.2.2.2.2.2.symm] at y0 y2 y3 y4
            obtain ⟨x, hx⟩ : ∃ x, x = mo H k := ⟨_, rfl⟩
            rw [show rd_T52 H (k : Nat) = x from hx.symm] at x0 x1 x2 x3 x4 x5 x6 x7 x8 h7 g7 h8 g8
            have HG4 := Lib.hid (And.intro h7 (And.intro g7 (And.intro h8 g8)))
            clear h7 g7 h8 g8 hcb
            by_cases hke : k = n
            · have e0 : x.f0 = m.f0 := by rw [hx, hke, HX.out.2.2.1, HX.out.2.2.2.2.2.2]
              have e1 : x.f1 = false := by rw [hx, hke, HX.out.2.2.2.1]
              have e2 : x.f2 = m.f2 := by rw [hx, hke, HX.out.2.2.2.2.1, HX.out.2.2.2.2.2.2]
              rw [e0] at x0
              rw [e1] at x1
              rw [e2] at x2 x3 x4
              have HE := Lib.hid (And.intro hke hx)
              clear hke hx e0 e1 e2
              have hclD : (m.f0 == m.f0) = true := beq_iff_eq.2 rfl
              have hq : (m.f2.f0 == m.f2.f0 && (m.f2.f1 == m.f2.f1 && (m.f2.f2.toList == m.f2.f2.toList))) = true := by simp
              have hqq := eqOp
              have z5 := blk_cell HCB.out (i := 5) rfl
              have z6 := blk_cell HCB.out (i := 6) rfl
              have z7 := blk_cell HCB.out (i := 7) rfl
              have z8 := blk_cell HCB.out (i := 8) rfl
              have fz : ∀ i, wr.frozen? ⟨wO.heap.size, i, none⟩ = false := fun i => blk_frozen HCB.out i
              have hcbl := blk_lt HCB.out
              go_wp2_with fail
              go_quiet (fail)
              go_wp2_with fail
              go_quiet (fail)
              go_wp2_with fail
              go_roundw
              case rel =>
                refine ⟨k + 1, by omega, by omega, by go_num, ?_, ?_⟩
                · exact below_set (below_set (below_set (below_set (below_set (pw_below_drewN HBL.out _) (Nat.le_refl _) _ _) (Nat.le_refl _) _ _) (Nat.le_refl _) _ _) (Nat.le_refl _) _ _) (Nat.le_refl _) _ _
                · have hxn : (mo H n).f3 = x.f3 := by rw [HE.out.2, HE.out.1]
                  refine ⟨(n : Nat), x.f3, A7', c7', A8', c8', ?_, HG4.out, .inr ⟨rfl, hxn.symm⟩⟩
                  rw [← HX.out.2.2.2.2.2.2, ← HE.out.1]
                  exact blk_set (blk_set (blk_set (blk_set (blk_set HCB.out 1 _) 5 _) 6 _) 7 _) 8 _
              case measure => simp [intOf]; omega
            · have hne : x.f0 ≠ m.f0 := by rw [hx, HX.out.2.2.2.2.2.2]; exact HX.out.2.2.2.2.2.1 k (by omega) (by omega)
              have hclD : (x.f0 == m.f0) = false := beq_eq_false_iff_ne.mpr hne
              clear hne hx x1 x2 x3 x4 x5 x6 x7 x8
              go_wp2_with fail
              go_quiet (fail)
              go_wp2_with fail
              go_roundw
              case rel => exact ⟨k + 1, by omega, by omega, by go_num, pw_below_drewN HBL.out _, -1, zRep, B7, d7, B8, d8, by rw [← HX.out.2.2.2.2.2.2]; exact HCB.out, HLE.out, .inl ⟨rfl, rfl, by omega⟩⟩
              case measure => simp [intOf]; omega
          · have z0 := blk_cell HCB.out (i := 0) rfl
            have z2 := blk_cell HCB.out (i := 2) rfl
            have z3 := blk_cell HCB.out (i := 3) rfl
            have z4 := blk_cell HCB.out (i := 4) rfl
            have z5 := blk_cell HCB.out (i := 5) rfl
            have z6 := blk_cell HCB.out (i := 6) rfl
            have z7 := blk_cell HCB.out (i := 7) rfl
            have z8 := blk_cell HCB.out (i := 8) rfl
            have HO : Hid (OwnRow (k57.K w) 57 9 wr w.heap.size (.slice A6 (callL H nx i).length c6) (callL H nx i)) := Lib.hid (HS.out.1.below HBL.out)
            clear hcb
            by_cases hkl : k < H.length
            · have hkD : decide ((k : Int) < (H.length : Int)) = true := by simp; omega
              go_wp2_with (refine OwnRow.append (w0 := w) w.heap.size rfl (.tmp 83) (.tmp 85) 53 57 _ 9 120 rfl Try.underlying53 info_call11 rfl (by decide) (by decide) _ (callL H nx i) ⟨(i : Int), (n : Nat), m.f2, (mo H n).f3⟩ _ rfl rfl (k57_mk w ⟨(i : Int), (n : Nat), m.f2, (mo H n).f3⟩ HLE.out.1 HLE.out.2.1 HLE.out.2.2.1 HLE.out.2.2.2) rfl (by intro u hu; simp at hu; rcases hu with rfl | rfl | rfl | rfl | rfl | rfl | rfl | rfl | rfl <;> rfl) HO.out HBW.out (below_size HBW.out) (by omega) ?_; intro v1 w3 hO3 hB3 hg3 hat3; have HO3 := Lib.hid (And.intro hO3 (And.intro hB3 hg3)); clear hO3 hB3 hg3 hat3)
              go_roundw
              case rel => exact ⟨i + 1, by omega, by rw [HX.out.1], by go_num, by rw [HX.out.2.1, ← HX.out.2.2.2.2.2.2]; exact HO3.out.1, HO3.out.2.1⟩
              case measure => simp [intOf]; omega
            · have hkD : decide ((k : Int) < (H.length : Int)) = false := by simp; omega
              go_wp2_with (refine OwnRow.append (w0 := w) w.heap.size rfl (.tmp 83) (.tmp 85) 53 57 _ 9 120 rfl Try.underlying53 info_call11 rfl (by decide) (by decide) _ (callL H nx i) ⟨(i : Int), (n : Nat), m.f2, (mo H n).f3⟩ _ rfl rfl (k57_mk w ⟨(i : Int), (n : Nat), m.f2, (mo H n).f3⟩ HLE.out.1 HLE.out.2.1 HLE.out.2.2.1 HLE.out.2.2.2) rfl (by intro u hu; simp at hu; rcases hu with rfl | rfl | rfl | rfl | rfl | rfl | rfl | rfl | rfl <;> rfl) HO.out HBW.out (below_size HBW.out) (by omega) ?_; intro v1 w3 hO3 hB3 hg3 hat3; have HO3 := Lib.hid (And.intro hO3 (And.intro hB3 hg3)); clear hO3 hB3 hg3 hat3)
              go_roundw
              case rel => exact ⟨i + 1, by omega, by rw [HX.out.1], by go_num, by rw [HX.out.2.1, ← HX.out.2.2.2.2.2.2]; exact HO3.out.1, HO3.out.2.1⟩
              case measure => simp [intOf]; omega
    · obtain rfl : i = H.length := by omega
      have heD : ((endC H H.length : Int) == ((callL H nx H.length).length : Int)) = true := by
        have := HN.out
        simp; omega
      have heD2 : decide ((endC H H.length : Int) = ((callL H nx H.length).length : Int)) = true := by
        have := HN.out
        simp; omega
      go_wp2_with fail
      go_ret2
      exact ⟨HS.out.2.1, _, rfl, HS.out.1⟩
theorem tplain_addr {w : World} {a : Addr} {v : Value} (h : w.cell? a = some v) : ∃ b o, a = ⟨b, o, none⟩ ∧ b < w.heap.size := by
  obtain ⟨b, o, s⟩ := a
  cases s with
  | none => exact ⟨b, o, rfl, World.block_lt_of_cell? w _ h⟩
  | some s =>
    unfold World.cell? at h
    split at h
    · simp at h
    · cases h
theorem ScrIs.of_C {w : World} {B : Option Addr} {c1 : Nat} {scr : List Int} (h : (Kd.int .i64).C w B scr.length scr) (hc : scr.length ≤ c1) (hc1 : c1 ≤ 9223372036854775807) : ScrIs w w.heap.size (.slice B scr.length c1) scr := by
  cases scr with
  | nil => exact .inl ⟨rfl, B, c1, rfl⟩
  | cons x t =>
    obtain ⟨ad, rfl, h2⟩ := h.2.2 (by simp)
    obtain ⟨c, hcl, hK, hcell⟩ := h2 0 x rfl
    have hc0 : c = [.int .i64 x] := hK
    subst hc0
    have h0 := hcell 0 _ rfl
    have e0 : ad.add (0 * 1 + 0) = ad := rfl
    have h0' : w.cell? (ad.add (0 * 1 + 0)) = some (.int .i64 x) := h0
    rw [e0] at h0'
    obtain ⟨b, o, rfl, hb⟩ := tplain_addr h0'
    refine .inr ⟨b, o, c1, rfl, hc, hc1, hb, fun j y hj => ?_⟩
    obtain ⟨c2, _, hK2, hcell2⟩ := h2 j y hj
    have hc2 : c2 = [.int .i64 y] := hK2
    subst hc2
    have h3 : w.cell? ((⟨b, o, none⟩ : Addr).add (j * 1 + 0)) = some (.int .i64 y) := hcell2 0 _ rfl
    rw [Addr.add_lit, Nat.mul_one, Nat.add_zero] at h3
    exact h3
/-! #### long -/
theorem long_no (l0 : List (List POp)) (scr : List Int) (h1 : l0.length + (l0.map List.length).sum ≤ 2147483647) (h2 : scr.length ≤ 2147483647) : ∃ k, fuguelaw11_long.f k l0 scr = some false := by
  have key : ∀ d i : Nat, i + d = l0.length → ∀ k, d < k → fuguelaw11_long.l0 k l0 scr ((l0.length + ((l0.map List.length).take i).sum : Nat) : Int) (i : Nat) = some false := by
    have tot : ∀ i, ((l0.map List.length).take i).sum ≤ (l0.map List.length).sum := fun i => by
      conv => rhs; rw [← List.take_append_drop i (l0.map List.length)]
      rw [List.sum_append]
      omega
    intro d
    induction d with
    | zero =>
      intro i hi k hk
      obtain ⟨k, rfl⟩ : ∃ m, k = m + 1 := ⟨k - 1, by omega⟩
      have hle := tot i
      simp only [fuguelaw11_long.l0, fugueref00_Long.f]
      rw [if_neg (by omega)]
      simp only [Option.bind_some]
      rw [if_neg (by rw [decide_eq_true_eq]; omega)]
      rw [decide_eq_false (by omega)]
    | succ d ih =>
      intro i hi k hk
      obtain ⟨k, rfl⟩ : ∃ m, k = m + 1 := ⟨k - 1, by omega⟩
      have hil : i < l0.length := by omega
      have e : ((l0.map List.length).take (i + 1)).sum = ((l0.map List.length).take i).sum + (l0[i]'hil).length := by
        rw [List.take_succ_eq_append_getElem (by simpa using hil)]
        simp
      have hle := tot (i + 1)
      have hle2 := tot i
      simp only [fuguelaw11_long.l0, fugueref00_Long.f]
      rw [if_pos (by omega)]
      simp only [Option.bind_some]
      rw [if_neg (by rw [decide_eq_true_eq]; omega), if_pos (by omega)]
      have := ih (i + 1) (by omega) k (by omega)
      rw [show wrap64 (((l0.length + ((l0.map List.length).take i).sum : Nat) : Int) + ((PTableEnds.rd_L3 l0 (i : Nat)).length : Int)) = ((l0.length + ((l0.map List.length).take (i + 1)).sum : Nat) : Int) by
        have hr : PTableEnds.rd_L3 l0 (i : Nat) = l0[i]'hil := by unfold PTableEnds.rd_L3; simp [hil]
        rw [hr, e]
        unfold wrap64
        omega, show wrap64 (((i : Nat) : Int) + 1) = ((i + 1 : Nat) : Int) by unfold wrap64; omega]
      exact this
  refine ⟨l0.length + 1, ?_⟩
  have := key l0.length 0 (by omega) (l0.length + 1) (by omega)
  simpa [fuguelaw11_long.f] using this
/-! #### what is asked -/
/-- of a client: the calls that stand from place j on -/
def restC (H : List PMo) (cs : List PCall) (n : Nat) (j : Nat) : List POp := ((cs.drop j).filter fun (c : PCall) => decide ((rd_T52 H c.f0).f0 = (n : Int))).map (·.f2)
structure EndsOk (l0 : List (List POp)) (H : List PMo) (nx : Nat → Nat) : Prop where
  good : Good H nx
  cnt : endC H H.length = (callL H nx H.length).length
  cl : ∀ (j : Nat) (c : PCall), (callL H nx H.length)[j]? = some c → ∃ p n : Nat, c.f0 = p ∧ p < H.length ∧ n < l0.length ∧ (mo H p).f0 = n
  rest : ∀ n, n < l0.length → restC H (callL H nx H.length) n 0 = (rd_L3 l0 (n : Nat)).filter okB
  len : H.length ≤ 16777216
/-- where each client stands -/
def AtPos (l0 : List (List POp)) (H : List PMo) (cs : List PCall) (j : Nat) (a : Nat → Nat) : Prop := ∀ n, n < l0.length → a n ≤ (rd_L3 l0 (n : Nat)).length ∧ ((rd_L3 l0 (n : Nat)).drop (a n)).filter okB = restC H cs n j
theorem restC_here {H : List PMo} {cs : List PCall} {n j : Nat} {c : PCall} (hc : cs[j]? = some c) (hn : (rd_T52 H c.f0).f0 = (n : Int)) : restC H cs n j = c.f2 :: restC H cs n (j + 1) := by
  unfold restC
  obtain ⟨hj, rfl⟩ := List.getElem?_eq_some_iff.1 hc
  rw [List.drop_eq_getElem_cons hj, List.filter_cons, if_pos (by simp [hn])]
  rfl
theorem restC_other {H : List PMo} {cs : List PCall} {n j : Nat} {c : PCall} (hc : cs[j]? = some c) (hn : (rd_T52 H c.f0).f0 ≠ (n : Int)) : restC H cs n j = restC H cs n (j + 1) := by
  unfold restC
  obtain ⟨hj, rfl⟩ := List.getElem?_eq_some_iff.1 hc
  rw [List.drop_eq_getElem_cons hj, List.filter_cons, if_neg (by simp [hn])]
theorem restC_end {H : List PMo} {cs : List PCall} {n : Nat} : restC H cs n cs.length = [] := by
  unfold restC
  rw [List.drop_length]
  rfl
def rowA (k : Nat) (a : Nat → Nat) : List Value := (List.range k).map fun n => .int .i64 ((a n : Nat) : Int)
theorem rowA_get {k n : Nat} {a : Nat → Nat} (h : n < k) : (rowA k a)[n]? = some (.int .i64 ((a n : Nat) : Int)) := by simp [rowA, h]
theorem rowA_set {k n : Nat} {a : Nat → Nat} (x : Nat) : (rowA k a).set n (.int .i64 ((x : Nat) : Int)) = rowA k fun i => if i = n then x else a i := by
  refine List.ext_getElem? fun i => ?_
  rw [List.getElem?_set]
  unfold rowA
  by_cases hi : i < k
  · by_cases e : n = i
    · subst e; simp [hi]
    · rw [if_neg e]; simp [hi, Ne.symm e]
  · rw [List.getElem?_eq_none (l := (List.range k).map _) (i := i) (by simp; omega)]
    by_cases e : n = i
    · subst e; simp [hi]
    · rw [if_neg e, List.getElem?_eq_none (by simp; omega)]
theorem rowA_len (k : Nat) (a : Nat → Nat) : (rowA k a).length = k := by simp [rowA]
/-- one call more is told -/
theorem AtPos.step {l0 : List (List POp)} {H : List PMo} {cs : List PCall} {j : Nat} {a : Nat → Nat} (h : AtPos l0 H cs j a) {c : PCall} (hc : cs[j]? = some c) {n : Nat} (hn : (rd_T52 H c.f0).f0 = (n : Int)) {x : Nat} (hx : x < (rd_L3 l0 (n : Nat)).length) (hd : ((rd_L3 l0 (n : Nat)).drop x).filter okB = c.f2 :: ((rd_L3 l0 (n : Nat)).drop (x + 1)).filter okB) (he : ((rd_L3 l0 (n : Nat)).drop x).filter okB = restC H cs n j) :
    AtPos l0 H cs (j + 1) fun i => if i = n then x + 1 else a i := by
  intro i hi
  by_cases e : i = n
  · subst e
    simp only [if_true]
    refine ⟨hx, ?_⟩
    rw [hd, restC_here hc hn] at he
    injection he
  · simp only [if_neg e]
    obtain ⟨h1, h2⟩ := h i hi
    exact ⟨h1, by rw [h2, restC_other hc (by rw [hn]; exact fun q => e (Int.ofNat_inj.1 q).symm)]⟩
theorem run_makeInts (n : Nat) (hn : n ≤ 16777216) : ∀ w, (Instr.makeSlice 27 (.int .i64 (n : Int)) (.int .i64 (n : Int))).run Try.prog w = .ok (.slice (some ⟨w.heap.size, 0, none⟩) n n) (w.alloc (.cells (List.replicate n (Value.int .i64 0)).toArray 3)) := by
  intro w
  obtain ⟨i0, hi, hz0, hz1, hz2⟩ := info_parts rinfoInt
  have := run_make_rowT 27 3 i0 _ Try.underlying27 hi hz0 .i64 .i64 n n (Nat.le_refl _) (by rw [hz2]; omega) (by omega) w
  rw [hz1, madeCells_oneT _ rfl] at this
  exact this
theorem drawn0_only {w w' : World} (h : Drawn0 w w') : ∃ n, w' = w.drewN n := h.out
/-- the marks, in a row of their own; all that was there is as it was -/
structure MarksIs (w wr : World) (ab k : Nat) (a : Nat → Nat) : Prop where
  row : wr.ownsRow w.heap.size 3 1 (.slice (some ⟨ab, 0, none⟩) k k) k (rowA k a)
  below : Below w.heap.size w wr
theorem MarksIs.cell {w wr : World} {ab k : Nat} {a : Nat → Nat} (h : MarksIs w wr ab k a) {n : Nat} (hn : n < k) : wr.cell? ⟨ab, n, none⟩ = some (.int .i64 ((a n : Nat) : Int)) ∧ wr.frozen? ⟨ab, n, none⟩ = false ∧ ab < wr.heap.size := by
  obtain ⟨g, he, h1, h2, _⟩ := own_at h.row (rowA_get hn)
  cases he
  exact ⟨h1, h2, (h.row.lt ab rfl).2⟩
theorem MarksIs.set {w wr : World} {ab k : Nat} {a : Nat → Nat} (h : MarksIs w wr ab k a) (n x : Nat) : MarksIs w (wr.setCell ⟨ab, n, none⟩ (.int .i64 ((x : Nat) : Int))) ab k fun i => if i = n then x else a i :=
  ⟨by rw [← rowA_set]; exact own_set h.row n _, below_set h.below (h.row.lt ab rfl).1 _ _⟩
theorem MarksIs.drewN {w wr : World} {ab k : Nat} {a : Nat → Nat} (h : MarksIs w wr ab k a) (n : Nat) : MarksIs w (wr.drewN n) ab k a := ⟨row_fresh h.row ((Only.refl _ _).drewN n), pw_below_drewN h.below n⟩
theorem MarksIs.congr {w wr : World} {ab k : Nat} {a a' : Nat → Nat} (h : MarksIs w wr ab k a) (e : ∀ i, a i = a' i) : MarksIs w wr ab k a' := by rw [show a' = a from funext fun i => (e i).symm]; exact h
set_option maxRecDepth 200000 in
set_option maxHeartbeats 8000000 in
theorem ends_walk (w : World) (A : Option Addr) (c0 : Nat) (l0 : List (List POp)) (hr : Kd.C (Kd.slice 23 k23) w A l0.length l0) (hc0 : l0.length ≤ c0) (B : Option Addr) (c1 : Nat) (scr : List Int) (hr1 : (Kd.int .i64).C w B scr.length scr) (hc1 : scr.length ≤ c1) (hc2 : c1 ≤ 9223372036854775807)
    (hM : l0.length + 11 * (l0.map List.length).sum ≤ 16777216) (hs : scr.length ≤ 16777216) (hend : ∀ H, ¬ 64 < l0.length → PlayEnd l0 scr H → ∃ nx, EndsOk l0 H nx) :
    Calls Try.prog 5 #[.slice A l0.length c0, .slice B scr.length c1] w fun e w' => e = .returned (.bool true) ∧ Fresh w w' := by
  obtain ⟨k0, hk0⟩ := long_no l0 scr (by omega) (by omega)
  have hlong := fuguelaw11_long.calls k0 A c0 l0 B c1 scr false w hr hc0 hr1 hc1 hk0
  have HLO := Lib.hid hlong
  have hlen : l0.length ≤ 16777216 := by omega
  have hsl : scr.length ≤ 9223372036854775807 := by omega
  have HR := Lib.hid (And.intro hr (And.intro hr1 (And.intro hM hend)))
  have HSC := Lib.hid (ScrIs.of_C hr1 hc1 hc2)
  clear hr hr1 hM hend hk0 hlong hs
  go_enter Try.func5, Try.ntmps5
  go_wp2_with fail
  refine HLO.out.mono ?_
  rintro e w1 ⟨rfl, hd⟩
  obtain ⟨n1, hd1⟩ := drawn0_only hd
  have F1 : Fresh w w1 := by rw [hd1]; exact (Only.refl _ _).drewN _
  have HF1 := Lib.hid F1
  clear hd hd1 F1 HLO
  go_wp2_with fail
  refine (lives_walk w1).mono ?_
  rintro e w2 ⟨rfl, F2⟩
  have hF2 : Fresh w w2 := HF1.out.trans' F2
  have HF2 := Lib.hid hF2
  have hC2 := Kd.C_below HR.out.1 (hF2.below (Nat.le_refl _) fun _ q => q.elim)
  have hS2 := (HSC.out.keep (base' := w.heap.size) (Nat.le_refl _) (hF2.mono fun _ _ q => q.elim) (Nat.le_refl _))
  have hS3 : ScrIs w2 w2.heap.size (.slice B scr.length c1) scr := by
    rcases hS2 with q | ⟨ib, off, C, q1, q2, q3, q4, q5⟩
    · exact .inl q
    · exact .inr ⟨ib, off, C, q1, q2, q3, Nat.lt_of_lt_of_le q4 hF2.size, q5⟩
  have HP := Lib.hid (play_walk w2 A c0 l0 hC2 _ scr hS3 (by have := HR.out.2.2.1; omega))
  clear F2 hF2 hC2 hS2 hS3
  go_wp2_with fail
  refine HP.out.mono ?_
  rintro e w3 ⟨v, H, rfl, hpe, hhi, F3⟩
  obtain ⟨Ah, Ch, rfl, hlh, hCh⟩ := hhi.reads
  have HF3 := Lib.hid (HF2.out.trans' F3)
  have HH := Lib.hid (And.intro hpe hCh)
  clear hpe hhi F3 hCh HP
  by_cases hbig : 64 < l0.length
  · have hbI : (64 : Int) < (l0.length : Int) := by omega
    have hH0 : H.length = 0 := by
      have := HH.out.1
      unfold PlayEnd at this
      rw [if_pos hbig] at this
      rw [this]
      rfl
    rw [hH0]
    go_wp2_with fail
    go_ret
    exact ⟨rfl, HF3.out⟩
  · have hbI : ¬ (64 : Int) < (l0.length : Int) := by omega
    have hbD : decide ((64 : Int) < (l0.length : Int)) = false := by simp; omega
    obtain ⟨nx, hok⟩ := HR.out.2.2.2 H hbig HH.out.1
    have HOK := Lib.hid hok
    have HCW := Lib.hid (calls_walk w3 Ah Ch H nx HH.out.2 hok.len hok.good hok.cnt)
    have hHl : H.length ≤ 16777216 := hok.len
    clear hok
    go_wp2_with fail
    refine HCW.out.mono ?_
    rintro e w4 ⟨B4, v4, rfl, O4⟩
    obtain ⟨Ac, Cc, rfl, hlc, hCc⟩ := O4.reads
    obtain ⟨cs, hcs⟩ : ∃ cs, cs = callL H nx H.length := ⟨_, rfl⟩
    rw [← hcs] at hlc hCc ⊢
    have hcl := callL_len H nx H.length
    rw [← hcs] at hcl
    have hcs1 : cs.length ≤ 16777216 := by omega
    have hF4 : Below w.heap.size w w4 := (HF3.out.below (Nat.le_refl _) fun _ q => q.elim).trans (B4.mono HF3.out.size)
    have hC4 : k57.C w4 Ac cs.length cs := ReadsRow.imp_ hCc (Below.refl _ _) fun p c q => k57.K_below B4 q
    have hH4 := Kd.C_below HH.out.2 B4
    have hL4 := Kd.C_below HR.out.1 hF4
    have H4 := Lib.hid (And.intro hC4 (And.intro hH4 (And.intro hL4 (And.intro hF4 hcs))))
    have hmk := run_makeInts l0.length hlen
    clear B4 O4 hCc hcl hF4 hC4 hH4 hL4 hcs HCW
    go_wp2_with fail
    refine nameW ?_
    intro V hV
    obtain ⟨ab, hab⟩ : ∃ ab, ab = w4.heap.size := ⟨_, rfl⟩
    have hM0 : MarksIs w4 V ab l0.length fun _ => 0 := by
      rw [hV, hab]
      refine ⟨⟨by rw [rowA_len, Nat.mul_one], .inr ⟨w4.heap.size, l0.length, _, rfl, Nat.le_refl _, new_blk _, Nat.le_refl _, by unfold maxLen; omega, by simp, ?_⟩⟩, below_alloc (Below.refl _ _) _⟩
      unfold rowA
      simp
      refine List.ext_getElem? fun i => ?_
      by_cases hi : i < l0.length
      · simp [hi]
      · rw [List.getElem?_eq_none (by simp; omega), List.getElem?_eq_none (by simp; omega)]
    have HM0 := Lib.hid hM0
    rw [← hab]
    clear hM0 hV hab hmk
    have hu23 := Try.underlying23
    go_loopw [10] (fun s10 wr => ∃ (j : Nat) (a : Nat → Nat), j ≤ cs.length ∧ s10 = .int .i64 j ∧ MarksIs w4 wr ab l0.length a ∧ AtPos l0 H cs j a) (fun s10 _ => cs.length - (intOf s10).toNat)
    case atStart =>
      refine ⟨0, fun _ => 0, Nat.zero_le _, rfl, HM0.out, fun n hn => ⟨Nat.zero_le _, ?_⟩⟩
      rw [List.drop_zero, H4.out.2.2.2.2]
      exact (HOK.out.rest n hn).symm
    case round =>
      obtain ⟨wo, rfl⟩ : ∃ wo : World, wo = wr := ⟨_, rfl⟩
      obtain ⟨j, a, hj, rfl, hma, hat⟩ := hrel
      have HMA := Lib.hid (And.intro hma hat)
      clear hma hat
      by_cases hlt : j < cs.length
      · have hjD : decide ((j : Int) < (cs.length : Int)) = true := by simp; omega
        obtain ⟨c, hc⟩ : ∃ c, cs[j]? = some c := ⟨_, List.getElem?_eq_getElem hlt⟩
        have hrd : rd_T57 cs (j : Nat) = c := by
          unfold rd_T57
          rw [Int.toNat_natCast, List.getD_eq_getElem?_getD, hc]
          rfl
        obtain ⟨p, nn, hp, hpl, hnn, hcn⟩ := HOK.out.cl j c (by rw [← H4.out.2.2.2.2]; exact hc)
        obtain ⟨ad, _, _, _, _, hA, x0, _, x2, x3, x4, _⟩ := at_T57 (w := wo) (Kd.C_below H4.out.1 HMA.out.1.below) j (by omega) (by omega)
        subst hA
        obtain ⟨ad1, _, _, _, _, hA, y0, _⟩ := at_T52 (w := wo) (Kd.C_below H4.out.2.1 HMA.out.1.below) p (by omega) (by omega)
        subst hA
        simp only [Int.toNat_natCast] at x0 x2 x3 x4 y0
        rw [hrd] at x0 x2 x3 x4
        rw [hp] at x0
        rw [show (rd_T52 H (p : Nat)).f0 = (nn : Int) from hcn] at y0
        have hpI : (p : Int) < (H.length : Int) := by omega
        have hp0 : (0 : Int) ≤ (p : Int) := by omega
        have hnI : (nn : Int) < (l0.length : Int) := by omega
        have hn0 : (0 : Int) ≤ (nn : Int) := by omega
        have hnD : decide (l0.length ≤ nn) = false := by simp; omega
        have hnD2 : decide ((nn : Int) < 0) = false := by simp
        obtain ⟨ops, hops⟩ : ∃ ops, ops = rd_L3 l0 (nn : Nat) := ⟨_, rfl⟩
        have hcl : (rd_T52 H c.f0).f0 = (nn : Int) := by rw [hp]; exact hcn
        have hpos := HMA.out.2 nn hnn
        rw [← hops] at hpos
        have hrest := restC_here hc hcl
        have HC := Lib.hid (And.intro hc (And.intro hrd (And.intro hcl (And.intro hops (And.intro hpos hrest)))))
        clear hc hrd hp hcn hcl hops hpos hrest hpl
        go_wp2_with fail
        go_loopg [66] (ops.length - a nn) (fun cnt s66 wt => ∃ (x : Nat), cnt = ops.length - x ∧ x ≤ ops.length ∧ MarksIs w4 wt ab l0.length (fun i => if i = nn then x else a i) ∧ (ops.drop x).filter okB = restC H cs nn j)
        case atStart => exact ⟨a nn, rfl, HC.out.2.2.2.2.1.1, HMA.out.1.congr fun i => by by_cases e : i = nn <;> simp [e], HC.out.2.2.2.2.1.2⟩
        case round =>
          obtain ⟨x, hcnt, hx, hma, hfil⟩ := hrel
          have hne : (ops.drop x).filter okB ≠ [] := by rw [hfil, HC.out.2.2.2.2.2]; simp
          have hxl : x < ops.length := by
            rcases Nat.lt_or_ge x ops.length with q | q
            · exact q
            · rw [List.drop_of_length_le q] at hne
              exact absurd rfl hne
          obtain ⟨k1, k2, k3⟩ := hma.cell hnn
          simp only [if_true] at k1
          obtain ⟨ad2, A1, c2, hA, z0, hl2, hC2⟩ := at_L3 (w := wr) (Kd.C_below H4.out.2.2.1 hma.below) nn (by omega) (by omega)
          subst hA
          simp only [Int.toNat_natCast] at z0 hl2 hC2
          rw [← HC.out.2.2.2.1] at z0 hl2 hC2
          have hol : ops.length ≤ 9223372036854775807 := hC2.2.1
          obtain ⟨ad3, hA, q0, q1, q2⟩ := at_T23 hC2 x (by omega) (by omega)
          subst hA
          simp only [Int.toNat_natCast] at q0 q1 q2
          obtain ⟨o, ho⟩ : ∃ o, o = rd_T23 ops (x : Nat) := ⟨_, rfl⟩
          rw [← ho] at q0 q1 q2
          have hdr : (ops.drop x).filter okB = (if okB o = true then [o] else []) ++ (ops.drop (x + 1)).filter okB := by
            have : o = ops[x]'hxl := by rw [ho]; unfold rd_T23; simp [hxl]
            rw [List.drop_eq_getElem_cons hxl, List.filter_cons, ← this]
            by_cases e : okB o = true
            · simp [e]
            · simp [e]
          have HD := Lib.hid (And.intro hma (And.intro hfil (And.intro hdr hcnt)))
          have hxD : decide ((x : Int) < (ops.length : Int)) = true := by simp; omega
          have hxI : (x : Int) < (ops.length : Int) := by omega
          have hx0 : (0 : Int) ≤ (x : Int) := by omega
          clear hma hfil hne hdr ho hcnt hC2
          have hcase : (o.f0 < 1 ∨ (¬ o.f0 < 1 ∧ 3 < o.f0)) ∨ (¬ o.f0 < 1 ∧ ¬ 3 < o.f0) := by omega
          rcases hcase with (hno | ⟨hno1, hno⟩) | ⟨hy1, hy2⟩
          · have HOK2 := Lib.hid (show okB o = false by unfold okB; simp; omega)
            go_wp2_with fail
            go_quiet (fail)
            go_wp2_with fail
            go_roundg (ops.length - (x + 1))
            case measure => rw [HD.out.2.2.2]; omega
            case rel =>
              refine ⟨x + 1, rfl, by omega, ((HD.out.1.drewN _).set nn (x + 1)).congr fun i => by by_cases e : i = nn <;> simp [e], ?_⟩
              rw [← HD.out.2.1, HD.out.2.2.1, HOK2.out]
              rfl
          · have HOK2 := Lib.hid (show okB o = false by unfold okB; simp; omega)
            go_wp2_with fail
            go_quiet (fail)
            go_wp2_with fail
            go_roundg (ops.length - (x + 1))
            case measure => rw [HD.out.2.2.2]; omega
            case rel =>
              refine ⟨x + 1, rfl, by omega, ((HD.out.1.drewN _).set nn (x + 1)).congr fun i => by by_cases e : i = nn <;> simp [e], ?_⟩
              rw [← HD.out.2.1, HD.out.2.2.1, HOK2.out]
              rfl
          · have hof : o = c.f2 := by
              have h1 := HD.out.2.1
              rw [HD.out.2.2.1, if_pos (by unfold okB; simp; omega), HC.out.2.2.2.2.2] at h1
              injection h1
            obtain ⟨ad', _, _, _, _, hA, x0, _, x2, x3, x4, _⟩ := at_T57 (w := wr) (Kd.C_below H4.out.1 HD.out.1.below) j (by omega) (by omega)
            cases hA
            simp only [Int.toNat_natCast] at x0 x2 x3 x4
            rw [HC.out.2.1, ← hof] at x2 x3 x4
            have HO := Lib.hid hof
            clear x0 hof
            have hq : (o.f0 == o.f0 && (o.f1 == o.f1 && (o.f2.toList == o.f2.toList))) = true := by simp
            have hqq := eqOp
            go_wp2_with fail
            go_quiet (fail)
            go_wp2_with fail
            go_quiet (fail)
            go_wp2_with fail
            go_roundw
            case rel =>
              refine ⟨j + 1, fun i => if i = nn then x + 1 else a i, by omega, by go_num, (((HD.out.1.drewN _).set nn (x + 1)).congr fun i => by by_cases e : i = nn <;> simp [e]), ?_⟩
              obtain ⟨e1, e2, e3, e4, e5, e6⟩ := HC.out
              refine HMA.out.2.step e1 e3 (by rw [← e4]; exact hxl) ?_ (by rw [← e4]; exact HD.out.2.1)
              rw [← e4, HD.out.2.2.1, if_pos (by unfold okB; simp; omega), HO.out]
              rfl
            case measure => simp [intOf]; omega
      · obtain rfl : j = cs.length := by omega
        have HMB := Lib.hid (And.intro HMA.out.1 fun (n : Nat) (hn : n < l0.length) => And.intro (HMA.out.2 n hn).1 ((HMA.out.2 n hn).2.trans restC_end))
        clear HMA
        go_wp2_with fail
        go_loopw [12] (fun s12 wr => ∃ (kk : Nat) (a : Nat → Nat), kk ≤ l0.length ∧ s12 = .int .i64 kk ∧ MarksIs w4 wr ab l0.length a ∧ (∀ n, n < l0.length → a n ≤ (rd_L3 l0 (n : Nat)).length ∧ ((rd_L3 l0 (n : Nat)).drop (a n)).filter okB = [])) (fun s12 _ => l0.length - (intOf s12).toNat)
        case atStart => exact ⟨0, a, Nat.zero_le _, rfl, HMB.out.1, HMB.out.2⟩
        case round =>
          obtain ⟨wp, rfl⟩ : ∃ wp : World, wp = wr := ⟨_, rfl⟩
          obtain ⟨kk, a, hkk, rfl, hma, hat⟩ := hrel
          have HMC := Lib.hid (And.intro hma hat)
          clear hma hat HMB
          by_cases hlt2 : kk < l0.length
          · have hkD : decide ((kk : Int) < (l0.length : Int)) = true := by simp; omega
            have hkI : (kk : Int) < (l0.length : Int) := by omega
            have hk0 : (0 : Int) ≤ (kk : Int) := by omega
            obtain ⟨ops, hops⟩ : ∃ ops, ops = rd_L3 l0 (kk : Nat) := ⟨_, rfl⟩
            have hpos := HMC.out.2 kk hlt2
            rw [← hops] at hpos
            have HC := Lib.hid (And.intro hops hpos)
            clear hops hpos
            go_wp2_with fail
            go_loopg [150] (ops.length - a kk) (fun cnt s150 wt => ∃ (x : Nat), cnt = ops.length - x ∧ x ≤ ops.length ∧ MarksIs w4 wt ab l0.length (fun i => if i = kk then x else a i) ∧ (ops.drop x).filter okB = [])
            case atStart => exact ⟨a kk, rfl, HC.out.2.1, HMC.out.1.congr fun i => by by_cases e : i = kk <;> simp [e], HC.out.2.2⟩
            case round =>
              obtain ⟨x, hcnt, hx, hma, hfil⟩ := hrel
              obtain ⟨k1, k2, k3⟩ := hma.cell hlt2
              simp only [if_true] at k1
              obtain ⟨ad2, A1, c2, hA, z0, hl2, hC2⟩ := at_L3 (w := wr) (Kd.C_below H4.out.2.2.1 hma.below) kk (by omega) (by omega)
              subst hA
              simp only [Int.toNat_natCast] at z0 hl2 hC2
              rw [← HC.out.1] at z0 hl2 hC2
              have hol : ops.length ≤ 9223372036854775807 := hC2.2.1
              by_cases hxl : x < ops.length
              · obtain ⟨ad3, hA, q0, q1, q2⟩ := at_T23 hC2 x (by omega) (by omega)
                subst hA
                simp only [Int.toNat_natCast] at q0 q1 q2
                obtain ⟨o, ho⟩ : ∃ o, o = rd_T23 ops (x : Nat) := ⟨_, rfl⟩
                rw [← ho] at q0 q1 q2
                have hdr : (ops.drop x).filter okB = (if okB o = true then [o] else []) ++ (ops.drop (x + 1)).filter okB := by
                  have : o = ops[x]'hxl := by rw [ho]; unfold rd_T23; simp [hxl]
                  rw [List.drop_eq_getElem_cons hxl, List.filter_cons, ← this]
                  by_cases e : okB o = true
                  · simp [e]
                  · simp [e]
                have hnok : okB o = false := by
                  cases e : okB o with
                  | false => rfl
                  | true => rw [hdr, e] at hfil; simp at hfil
                have HOK2 := Lib.hid hnok
                have hcase : o.f0 < 1 ∨ (¬ o.f0 < 1 ∧ 3 < o.f0) := by
                  unfold okB at hnok
                  simp at hnok
                  omega
                have HD := Lib.hid (And.intro hma (And.intro hfil (And.intro hdr hcnt)))
                have hxD : decide ((x : Int) < (ops.length : Int)) = true := by simp; omega
                have hxI : (x : Int) < (ops.length : Int) := by omega
                have hx0 : (0 : Int) ≤ (x : Int) := by omega
                clear hma hfil hdr ho hcnt hC2 hnok
                rcases hcase with hno | ⟨hno1, hno⟩
                · have hlo : ¬ 1 ≤ o.f0 := by omega
                  have hlD : decide (1 ≤ o.f0) = false := by simp; omega
                  go_wp2_with fail
                  go_quiet (fail)
                  go_wp2_with fail
                  go_quiet (fail)
                  go_wp2_with fail
                  go_roundg (ops.length - (x + 1))
                  case measure => rw [HD.out.2.2.2]; omega
                  case rel =>
                    refine ⟨x + 1, rfl, by omega, ((HD.out.1.drewN _).set kk (x + 1)).congr fun i => by by_cases e : i = kk <;> simp [e], ?_⟩
                    have h1 := HD.out.2.1
                    rw [HD.out.2.2.1, HOK2.out] at h1
                    exact h1
                · have hlo : 1 ≤ o.f0 := by omega
                  have hlD : decide (1 ≤ o.f0) = true := by simp; omega
                  have hhD : decide (o.f0 ≤ 3) = false := by simp; omega
                  go_wp2_with fail
                  go_quiet (fail)
                  go_wp2_with fail
                  go_quiet (fail)
                  go_wp2_with fail
                  go_roundg (ops.length - (x + 1))
                  case measure => rw [HD.out.2.2.2]; omega
                  case rel =>
                    refine ⟨x + 1, rfl, by omega, ((HD.out.1.drewN _).set kk (x + 1)).congr fun i => by by_cases e : i = kk <;> simp [e], ?_⟩
                    have h1 := HD.out.2.1
                    rw [HD.out.2.2.1, HOK2.out] at h1
                    exact h1
              · obtain rfl : x = ops.length := by omega
                have HD := Lib.hid (And.intro hma hfil)
                have hxD : decide ((ops.length : Int) < (ops.length : Int)) = false := by simp
                clear hma hfil hcnt hC2
                go_wp2_with fail
                go_quiet (fail)
                go_wp2_with fail
                go_roundw
                case rel =>
                  refine ⟨kk + 1, fun i => if i = kk then ops.length else a i, by omega, by go_num, HD.out.1.drewN _, fun n hn => ?_⟩
                  by_cases e : n = kk
                  · subst e
                    simp only [if_true]
                    rw [← HC.out.1]
                    exact ⟨Nat.le_refl _, HD.out.2⟩
                  · simp only [if_neg e]
                    exact HMC.out.2 n hn
                case measure => simp [intOf]; omega
          · obtain rfl : kk = l0.length := by omega
            have hkD : decide ((l0.length : Int) < (l0.length : Int)) = false := by simp
            go_wp2_with fail
            go_ret
            have hb := H4.out.2.2.2.1.trans (HMC.out.1.below.mono (below_size H4.out.2.2.2.1))
            exact ⟨rfl, hb.os, hb.tape, hb.output, hb.size, fun k hk _ => hb.block k hk⟩
end Go.Proofs.Ytihjpbalkjhjbaa
namespace Go.Proofs.Ytihjpbalkjhjbaa
open Go.RowKit Go.MapKept Go.MuLone Go.Shelf Go.Proofs.YtihjpbalkjhjbaaW.PrintWords Go.Proofs.Ytihjpbalkjhjbaa.PTableEnds
/-! #### rounds that are told by picks -/
/-- what a round that may be done keeps holds behind all rounds -/
theorem Plays.keeps {P : PSt → Prop} (hstep : ∀ (S : PSt) (n : Nat) (c : PCl) (o : POp) (rest : List POp), P S → S.cls[n]? = some c → c.ops = o :: rest → canB S c = true → P (stepP S n c o rest))
    {S0 S : PSt} {r0 r : Int × List Int} (h : Plays S0 r0 S r) : P S0 → (∃ scr last, r0 = pickP S0 scr last) → P S ∧ ∃ scr last, r = pickP S scr last := by
  induction h with
  | refl => exact fun a b => ⟨a, b⟩
  | @step S r h hn ih =>
    intro a b
    obtain ⟨hP, scr, last, hr⟩ := ih a b
    refine ⟨?_, _, _, rfl⟩
    have hc := pick_can (S := S) (scr := scr) (last := last) (by rw [← hr]; exact hn)
    rw [← hr] at hc
    obtain ⟨c, o, rest, h1, h2, h3⟩ := canAt_get hc
    have e : nextP S r.1.toNat = stepP S r.1.toNat c o rest := by unfold nextP; rw [h1]; simp only [h2]
    rw [e]
    exact hstep S _ c o rest hP h1 h2 h3
/-! #### the locks -/
structure LInv (S : PSt) : Prop where
  idle : ∀ (n : Nat) (c : PCl), S.cls[n]? = some c → c.begun = false → c.reply = none ∧ c.lockd = 0
  held : ∀ (n : Nat) (c : PCl), S.cls[n]? = some c → 0 < c.lockd → c.reply = none ∧ ∃ o rest, c.ops = o :: rest ∧ o.f0 = 3
  one : ∀ (n n' : Nat) (c c' : PCl), S.cls[n]? = some c → S.cls[n']? = some c' → 0 < c.lockd → 0 < c'.lockd → n = n'
  most : ∀ (n : Nat) (c : PCl), S.cls[n]? = some c → c.lockd ≤ 8
  lks : ∀ j, S.lk j = true ↔ ∃ (n : Nat) (c : PCl), S.cls[n]? = some c ∧ j < c.lockd
theorem set_get {l : List PCl} {n i : Nat} {c d x : PCl} (hn : l[n]? = some x) : (l.set n c)[i]? = some d ↔ (i = n ∧ d = c) ∨ (i ≠ n ∧ l[i]? = some d) := by
  have hl := (List.getElem?_eq_some_iff.1 hn).1
  rw [List.getElem?_set]
  by_cases e : n = i
  · subst e
    rw [if_pos rfl, if_pos hl]
    constructor
    · intro q
      exact .inl ⟨rfl, (Option.some.inj q).symm⟩
    · rintro (⟨_, q⟩ | ⟨q, _⟩)
      · rw [q]
      · exact absurd rfl q
  · rw [if_neg e]
    constructor
    · exact fun q => .inr ⟨Ne.symm e, q⟩
    · rintro (⟨q, _⟩ | ⟨_, q⟩)
      · exact absurd q.symm e
      · exact q
/-- a client turns; what it holds stays -/
theorem LInv.quiet {S : PSt} (h : LInv S) {n : Nat} {c c' : PCl} (hn : S.cls[n]? = some c) (hl : c'.lockd = c.lockd) (hz : c.lockd = 0) (hi : c'.begun = false → c'.reply = none) {L : List (Int × ByteArray)} {H : List PMo} : LInv ⟨S.cls.set n c', S.lk, L, H⟩ := by
  refine ⟨fun i d hd hb => ?_, fun i d hd hp => ?_, fun i j d e hd he hp hq => ?_, fun i d hd => ?_, fun j => ?_⟩
  · rcases (set_get hn).1 hd with ⟨rfl, rfl⟩ | ⟨hin, hd⟩
    · exact ⟨hi hb, hl.trans hz⟩
    · exact h.idle i d hd hb
  · rcases (set_get hn).1 hd with ⟨rfl, rfl⟩ | ⟨hin, hd⟩
    · omega
    · exact h.held i d hd hp
  · rcases (set_get hn).1 hd with ⟨rfl, rfl⟩ | ⟨hin, hd⟩
    · omega
    · rcases (set_get hn).1 he with ⟨rfl, rfl⟩ | ⟨hjn, he⟩
      · omega
      · exact h.one i j d e hd he hp hq
  · rcases (set_get hn).1 hd with ⟨rfl, rfl⟩ | ⟨hin, hd⟩
    · omega
    · exact h.most i d hd
  · show S.lk j = true ↔ _
    rw [h.lks j]
    constructor
    · rintro ⟨i, d, hd, hj⟩
      have hin : i ≠ n := fun e => by
        subst e
        rw [hn] at hd
        cases hd
        omega
      exact ⟨i, d, (set_get hn).2 (.inr ⟨hin, hd⟩), hj⟩
    · rintro ⟨i, d, hd, hj⟩
      rcases (set_get hn).1 hd with ⟨rfl, rfl⟩ | ⟨hin, hd⟩
      · omega
      · exact ⟨i, d, hd, hj⟩
theorem LInv.step {S : PSt} (h : LInv S) {n : Nat} {c : PCl} (hn : S.cls[n]? = some c) {o : POp} {rest : List POp} (ho : c.ops = o :: rest) (hok : OpOk o) (hc : canB S c = true) : LInv (stepP S n c o rest) := by
  unfold stepP
  split
  · rename_i hb
    exact h.quiet (c' := { c with begun := true }) hn rfl (h.idle n c hn hb).2 (fun q => by cases q)
  · rename_i hb
    have hb1 : c.begun = true := by simpa using hb
    split
    · rename_i r hr
      have hz : c.lockd = 0 := by
        rcases Nat.eq_zero_or_pos c.lockd with q | q
        · exact q
        · have := (h.held n c hn q).1
          rw [hr] at this
          cases this
      exact h.quiet (c' := { c with ops := rest, begun := false, reply := none }) hn rfl hz (fun _ => rfl)
    · rename_i hr
      have hcan : (if o.f0 = 3 then decide (c.lockd = 8) || !S.lk c.lockd else !S.lk (placeN o.f1)) = true := by
        unfold canB at hc
        rw [ho] at hc
        simp only [hb1, hr] at hc
        simpa using hc
      split
      · rename_i h3
        have hfree : S.lk c.lockd = false := by
          rw [if_pos h3.1] at hcan
          have : c.lockd ≠ 8 := by omega
          simpa [this] using hcan
        have hz : ∀ (i : Nat) (d : PCl), S.cls[i]? = some d → 0 < d.lockd → i = n := fun i d hd hp => by
          rcases Nat.eq_zero_or_pos c.lockd with q | q
          · rw [q] at hfree
            have := (h.lks 0).2 ⟨i, d, hd, hp⟩
            rw [hfree] at this
            cases this
          · exact h.one i n d c hd hn hp q
        refine ⟨fun i d hd hb' => ?_, fun i d hd hp => ?_, fun i j d e hd he hp hq => ?_, fun i d hd => ?_, fun j => ?_⟩
        · rcases (set_get hn).1 hd with ⟨rfl, rfl⟩ | ⟨hin, hd⟩
          · exact absurd (show c.begun = false from hb') hb
          · exact h.idle i d hd hb'
        · rcases (set_get hn).1 hd with ⟨rfl, rfl⟩ | ⟨hin, hd⟩
          · exact ⟨hr, o, rest, ho, h3.1⟩
          · exact h.held i d hd hp
        · have e1 : i = n := by
            rcases (set_get hn).1 hd with ⟨q, _⟩ | ⟨hin, hd⟩
            · exact q
            · exact hz i d hd hp
          have e2 : j = n := by
            rcases (set_get hn).1 he with ⟨q, _⟩ | ⟨hin, he⟩
            · exact q
            · exact hz j e he hq
          rw [e1, e2]
        · rcases (set_get hn).1 hd with ⟨rfl, rfl⟩ | ⟨hin, hd⟩
          · show c.lockd + 1 ≤ 8
            omega
          · exact h.most i d hd
        · show (if j = c.lockd then true else S.lk j) = true ↔ _
          constructor
          · intro q
            by_cases e : j = c.lockd
            · exact ⟨n, { c with lockd := c.lockd + 1 }, (set_get hn).2 (.inl ⟨rfl, rfl⟩), by show j < c.lockd + 1; omega⟩
            · rw [if_neg e] at q
              obtain ⟨i, d, hd, hj⟩ := (h.lks j).1 q
              have := hz i d hd (by omega)
              subst this
              rw [hn] at hd
              cases hd
              exact ⟨i, { c with lockd := c.lockd + 1 }, (set_get hn).2 (.inl ⟨rfl, rfl⟩), by show j < c.lockd + 1; omega⟩
          · rintro ⟨i, d, hd, hj⟩
            by_cases e : j = c.lockd
            · rw [if_pos e]
            · rw [if_neg e]
              rcases (set_get hn).1 hd with ⟨rfl, rfl⟩ | ⟨hin, hd⟩
              · have hj' : j < c.lockd + 1 := hj
                exact (h.lks j).2 ⟨i, c, hn, by omega⟩
              · exact (h.lks j).2 ⟨i, d, hd, hj⟩
      · rename_i h3
        unfold effectP
        by_cases hf : o.f0 = 1 ∨ o.f0 = 2
        · have hz : c.lockd = 0 := by
            rcases Nat.eq_zero_or_pos c.lockd with q | q
            · exact q
            · obtain ⟨_, o', rest', ho', h3'⟩ := h.held n c hn q
              rw [ho] at ho'
              injection ho' with e _
              subst e
              omega
          simp only [if_pos hf]
          exact h.quiet (c' := { c with reply := some (repOf S.L o) }) hn rfl hz (fun q => absurd (show c.begun = false from q) hb)
        · simp only [if_neg hf]
          have hzero : ∀ (i : Nat) (d : PCl), (S.cls.set n { c with reply := some (repOf S.L o), lockd := 0 })[i]? = some d → o.f0 = 3 → d.lockd = 0 := fun i d hd h33 => by
            rcases (set_get hn).1 hd with ⟨rfl, rfl⟩ | ⟨hin, hd⟩
            · rfl
            · rcases Nat.eq_zero_or_pos d.lockd with q | q
              · exact q
              · have hm := h.most n c hn
                have h88 : ¬ c.lockd < 8 := fun q => h3 ⟨h33, q⟩
                exact absurd (h.one i n d c hd hn q (by omega)) hin
          by_cases h33 : o.f0 = 3
          · refine ⟨fun i d hd hb' => ?_, fun i d hd hp => ?_, fun i j d e hd he hp hq => ?_, fun i d hd => ?_, fun j => ?_⟩
            · rcases (set_get hn).1 hd with ⟨rfl, rfl⟩ | ⟨hin, hd⟩
              · exact absurd (show c.begun = false from hb') hb
              · exact h.idle i d hd hb'
            · have := hzero i d hd h33
              omega
            · have := hzero i d hd h33
              omega
            · have := hzero i d hd h33
              omega
            · constructor
              · intro q; cases q
              · rintro ⟨i, d, hd, hj⟩
                have := hzero i d hd h33
                omega
          · exact absurd hok (by unfold OpOk; omega)
theorem LInv.free {S : PSt} (h : LInv S) (hno : ∀ n, canAt S n = false) (n : Nat) (c : PCl) (hn : S.cls[n]? = some c) : c.ops = [] := by
  have hcan : ∀ (i : Nat) (d : PCl), S.cls[i]? = some d → canB S d = false := fun i d hd => by
    have := hno i
    unfold canAt at this
    rw [hd] at this
    exact this
  have hstuck : ∀ (i : Nat) (d : PCl), S.cls[i]? = some d → ¬ 0 < d.lockd := fun i d hd hp => by
    obtain ⟨hr, o, rest, ho, h3⟩ := h.held i d hd hp
    have hb : d.begun = true := by
      cases q : d.begun with
      | true => rfl
      | false => have := (h.idle i d hd q).2; omega
    have hc := hcan i d hd
    unfold canB at hc
    rw [ho] at hc
    simp [hb, hr, h3] at hc
    obtain ⟨i', d', hd', hj⟩ := (h.lks d.lockd).1 hc.2
    have := h.one i i' d d' hd hd' hp (by omega)
    subst this
    rw [hd] at hd'
    cases hd'
    omega
  have hlk : ∀ j, S.lk j = false := fun j => by
    cases q : S.lk j with
    | false => rfl
    | true =>
      obtain ⟨i, d, hd, hj⟩ := (h.lks j).1 q
      exact absurd (by omega) (hstuck i d hd)
  cases ho : c.ops with
  | nil => rfl
  | cons o rest =>
    have hc := hcan n c hn
    unfold canB at hc
    rw [ho] at hc
    simp only [hlk] at hc
    split at hc
    · cases hc
    · split at hc <;> simp at hc
/-- a client's moments -/
def proj (n : Nat) (H : List PMo) : List PMo := H.filter fun (m : PMo) => decide (m.f0 = (n : Int))
/-- calls that are over -/
def pairs (n : Nat) : List (POp × PRep) → List PMo
  | [] => []
  | x :: d => ⟨(n : Nat), true, x.1, zRep⟩ :: ⟨(n : Nat), false, x.1, x.2⟩ :: pairs n d
theorem pairs_snoc (n : Nat) (x : POp × PRep) : ∀ d, pairs n (d ++ [x]) = pairs n d ++ [⟨(n : Nat), true, x.1, zRep⟩, ⟨(n : Nat), false, x.1, x.2⟩]
  | [] => rfl
  | y :: d => by
    show _ :: _ :: pairs n (d ++ [x]) = _ :: _ :: (pairs n d ++ _)
    rw [pairs_snoc n x d]
theorem proj_snoc (n : Nat) (H : List PMo) (m : PMo) : proj n (H ++ [m]) = proj n H ++ if m.f0 = (n : Int) then [m] else [] := by
  unfold proj
  rw [List.filter_append]
  by_cases e : m.f0 = (n : Int)
  · simp [e]
  · simp [e]
def opened (n : Nat) (c : PCl) : List PMo := if c.begun = true then (match c.ops with | o :: _ => [⟨(n : Nat), true, o, zRep⟩] | [] => []) else []
def cb (H : List PMo) : Nat := (H.filter fun (m : PMo) => m.f1).length
def ce (H : List PMo) : Nat := (H.filter fun (m : PMo) => !m.f1).length
def bg (c : PCl) : Nat := if c.begun = true then 1 else 0
structure HInv (l0 : List (List POp)) (S : PSt) : Prop where
  len : S.cls.length = l0.length
  rng : ∀ m ∈ S.hist, ∃ n : Nat, n < l0.length ∧ m.f0 = (n : Int)
  cl : ∀ (n : Nat) (c : PCl), S.cls[n]? = some c → ∃ d : List (POp × PRep), proj n S.hist = pairs n d ++ opened n c ∧ (rd_L3 l0 (n : Nat)).filter okB = d.map (·.1) ++ c.ops
  opn : ∀ (n : Nat) (c : PCl), S.cls[n]? = some c → c.begun = true → c.ops ≠ []
  bal : cb S.hist = ce S.hist + (S.cls.map bg).sum
theorem HInv.turn {l0 : List (List POp)} {S : PSt} (h : HInv l0 S) {n : Nat} {c c' : PCl} (hn : S.cls[n]? = some c) (h1 : c'.ops = c.ops) (h2 : c'.begun = c.begun) {lk : Nat → Bool} {L : List (Int × ByteArray)} : HInv l0 ⟨S.cls.set n c', lk, L, S.hist⟩ := by
  refine ⟨by simpa using h.len, h.rng, fun i d hd => ?_, fun i d hd => ?_, ?_⟩
  · rcases (set_get hn).1 hd with ⟨rfl, rfl⟩ | ⟨hin, hd⟩
    · obtain ⟨d, k1, k2⟩ := h.cl i c hn
      exact ⟨d, by rw [k1]; unfold opened; rw [h1, h2], by rw [h1]; exact k2⟩
    · exact h.cl i d hd
  · rcases (set_get hn).1 hd with ⟨rfl, rfl⟩ | ⟨hin, hd⟩
    · rw [h1, h2]
      exact h.opn i c hn
    · exact h.opn i d hd
  · have := sum_set (S.cls.map bg) n (bg c) (bg c') (by rw [List.getElem?_map, hn]; rfl)
    rw [← List.map_set, show bg c' = bg c by unfold bg; rw [h2]] at this
    have hb := h.bal
    show cb S.hist = ce S.hist + ((S.cls.set n c').map bg).sum
    omega
theorem HInv.tell {l0 : List (List POp)} {S : PSt} (h : HInv l0 S) {n : Nat} {c c' : PCl} (hn : S.cls[n]? = some c) {m : PMo} (hm : m.f0 = (n : Int)) {d' : List (POp × PRep)}
    (h1 : proj n S.hist ++ [m] = pairs n d' ++ opened n c') (h2 : (rd_L3 l0 (n : Nat)).filter okB = d'.map (·.1) ++ c'.ops) (h3 : c'.begun = true → c'.ops ≠ []) (h4 : (if m.f1 = true then 1 else 0) + bg c = bg c' + (if m.f1 = true then 0 else 1)) {lk : Nat → Bool} {L : List (Int × ByteArray)} : HInv l0 ⟨S.cls.set n c', lk, L, S.hist ++ [m]⟩ := by
  have hnl : n < l0.length := by rw [← h.len]; exact (List.getElem?_eq_some_iff.1 hn).1
  refine ⟨by simpa using h.len, fun m' q => ?_, fun i d hd => ?_, fun i d hd => ?_, ?_⟩
  · rcases List.mem_append.1 q with q | q
    · exact h.rng m' q
    · rw [List.mem_singleton] at q
      rw [q]
      exact ⟨n, hnl, hm⟩
  · show ∃ d', proj i (S.hist ++ [m]) = _ ∧ _
    rw [proj_snoc]
    rcases (set_get hn).1 hd with ⟨rfl, rfl⟩ | ⟨hin, hd⟩
    · rw [if_pos hm]
      exact ⟨d', h1, h2⟩
    · rw [if_neg (fun e => hin (by omega)), List.append_nil]
      exact h.cl i d hd
  · rcases (set_get hn).1 hd with ⟨rfl, rfl⟩ | ⟨hin, hd⟩
    · exact h3
    · exact h.opn i d hd
  · have := sum_set (S.cls.map bg) n (bg c) (bg c') (by rw [List.getElem?_map, hn]; rfl)
    have hb := h.bal
    show cb (S.hist ++ [m]) = ce (S.hist ++ [m]) + ((S.cls.set n c').map bg).sum
    unfold cb ce at hb ⊢
    rw [List.map_set, List.filter_append, List.filter_append, List.length_append, List.length_append]
    cases hm1 : m.f1 with
    | true => simp [hm1] at h4 ⊢; omega
    | false => simp [hm1] at h4 ⊢; omega
theorem HInv.step {l0 : List (List POp)} {S : PSt} (h : HInv l0 S) {n : Nat} {c : PCl} (hn : S.cls[n]? = some c) {o : POp} {rest : List POp} (ho : c.ops = o :: rest) : HInv l0 (stepP S n c o rest) := by
  obtain ⟨d, k1, k2⟩ := h.cl n c hn
  unfold stepP
  split
  · rename_i hb
    refine h.tell (c' := { c with begun := true }) hn rfl (d' := d) ?_ k2 (fun _ => by show c.ops ≠ []; rw [ho]; simp) (by simp [bg, hb])
    rw [k1]
    simp [opened, hb, ho]
  · rename_i hb
    have hb1 : c.begun = true := by simpa using hb
    split
    · rename_i r hr
      refine h.tell (c' := { c with ops := rest, begun := false, reply := none }) hn rfl (d' := d ++ [(o, r)]) ?_ ?_ (fun q => by cases q) (by simp [bg, hb1])
      · rw [k1, pairs_snoc]
        simp [opened, hb1, ho]
      · rw [k2, ho]
        simp
    · split
      · exact h.turn (c' := { c with lockd := c.lockd + 1 }) hn rfl rfl
      · unfold effectP
        exact h.turn (c' := { c with reply := some (repOf S.L o), lockd := if o.f0 = 1 ∨ o.f0 = 2 then c.lockd else 0 }) hn rfl rfl
theorem HInv.init (l0 : List (List POp)) : HInv l0 (initP l0) := by
  refine ⟨by simp [initP], fun m hm => by simp [initP] at hm, fun n c hc => ?_, fun n c hc hb => ?_, ?_⟩
  · unfold initP at hc
    rw [List.getElem?_map, Option.map_eq_some_iff] at hc
    obtain ⟨ops, h1, rfl⟩ := hc
    refine ⟨[], rfl, ?_⟩
    unfold rd_L3
    rw [Int.toNat_natCast, List.getD_eq_getElem?_getD, h1]
    rfl
  · unfold initP at hc
    rw [List.getElem?_map, Option.map_eq_some_iff] at hc
    obtain ⟨ops, h1, rfl⟩ := hc
    cases hb
  · show cb [] = ce [] + _
    have : ∀ l : List (List POp), ((l.map fun ops => newC (ops.filter okB)).map bg).sum = 0 := fun l => by
      induction l with
      | nil => rfl
      | cons a l ih => simp only [List.map_cons, List.sum_cons, ih]; rfl
    have h2 : ((initP l0).cls.map bg).sum = 0 := this l0
    rw [h2]
    rfl
/-! #### what a play's end is -/
structure OverH (l0 : List (List POp)) (H : List PMo) : Prop where
  rng : ∀ m ∈ H, ∃ n : Nat, n < l0.length ∧ m.f0 = (n : Int)
  cl : ∀ n : Nat, n < l0.length → ∃ d : List (POp × PRep), proj n H = pairs n d ∧ (rd_L3 l0 (n : Nat)).filter okB = d.map (·.1)
  bal : cb H = ce H
theorem LInv.init (l0 : List (List POp)) : LInv (initP l0) := by
  have h : ∀ (n : Nat) (c : PCl), (initP l0).cls[n]? = some c → c.reply = none ∧ c.lockd = 0 := fun n c hc => by
    unfold initP at hc
    rw [List.getElem?_map, Option.map_eq_some_iff] at hc
    obtain ⟨ops, h1, rfl⟩ := hc
    exact ⟨rfl, rfl⟩
  refine ⟨fun n c hc _ => h n c hc, fun n c hc hp => ?_, fun n n' c c' hc _ hp => ?_, fun n c hc => ?_, fun j => ?_⟩
  · have := (h n c hc).2; omega
  · have := (h n c hc).2; omega
  · have := (h n c hc).2; omega
  · constructor
    · intro q; cases q
    · rintro ⟨n, c, hc, hj⟩
      have := (h n c hc).2; omega
/-- the invariants of a play -/
structure PlayInv (l0 : List (List POp)) (S : PSt) : Prop where
  p : PInv (mu (initP l0)) S
  l : LInv S
  h : HInv l0 S
theorem PlayInv.step {l0 : List (List POp)} (S : PSt) (n : Nat) (c : PCl) (o : POp) (rest : List POp) (h : PlayInv l0 S) (hn : S.cls[n]? = some c) (ho : c.ops = o :: rest) (hc : canB S c = true) : PlayInv l0 (stepP S n c o rest) :=
  ⟨(h.p.step hn ho).1, h.l.step hn ho ((h.p.ok n c hn).1 o (by rw [ho]; simp)) hc, h.h.step hn ho⟩
theorem PlayInv.init (l0 : List (List POp)) : PlayInv l0 (initP l0) := ⟨init_inv l0, LInv.init l0, HInv.init l0⟩
theorem play_over {l0 : List (List POp)} {scr : List Int} {H : List PMo} (h : PlayEnd l0 scr H) (hl : ¬ 64 < l0.length) : OverH l0 H ∧ H.length ≤ mu (initP l0) := by
  unfold PlayEnd at h
  rw [if_neg hl] at h
  obtain ⟨S, r, hp, hr, rfl⟩ := h
  obtain ⟨hI, scr', last, hr'⟩ := hp.keeps (P := PlayInv l0) PlayInv.step (PlayInv.init l0) ⟨scr, -1, rfl⟩
  rw [hr'] at hr
  have hfree := hI.l.free (pick_none hr)
  have hbg : ∀ (n : Nat) (c : PCl), S.cls[n]? = some c → c.begun = false := fun n c hc => by
    cases q : c.begun with
    | false => rfl
    | true => exact absurd (hfree n c hc) (hI.h.opn n c hc q)
  refine ⟨⟨hI.h.rng, fun n hn => ?_, ?_⟩, by have := hI.p.hist; omega⟩
  · have hn' : n < S.cls.length := by rw [hI.h.len]; exact hn
    obtain ⟨d, k1, k2⟩ := hI.h.cl n _ (List.getElem?_eq_getElem hn')
    refine ⟨d, ?_, ?_⟩
    · rw [k1]
      unfold opened
      rw [hbg n _ (List.getElem?_eq_getElem hn')]
      simp
    · rw [k2, hfree n _ (List.getElem?_eq_getElem hn'), List.append_nil]
  · rw [hI.h.bal]
    have : ∀ l : List PCl, (∀ c ∈ l, c.begun = false) → (l.map bg).sum = 0 := fun l hl => by
      induction l with
      | nil => rfl
      | cons a l ih =>
        simp only [List.map_cons, List.sum_cons, ih fun c hc => hl c (List.mem_cons_of_mem _ hc)]
        unfold bg
        rw [hl a (by simp)]
        rfl
    rw [this S.cls fun c hc => by
      obtain ⟨n, hn⟩ := List.mem_iff_getElem?.1 hc
      exact hbg n c hn]
    rfl
theorem mo_get {H : List PMo} {i : Nat} (h : i < H.length) : mo H i = H[i]'h := by
  show rd_T52 H (i : Nat) = _
  unfold rd_T52
  simp [h]
/-- where a beginning stands among the calls that are over -/
theorem pairs_split (n : Nat) {b : PMo} {post : List PMo} (hb : b.f1 = true) : ∀ (d : List (POp × PRep)) (pre : List PMo), pairs n d = pre ++ b :: post → ∃ (x : POp × PRep) (d1 d2 : List (POp × PRep)), d = d1 ++ x :: d2 ∧ pre = pairs n d1 ∧ b = ⟨(n : Nat), true, x.1, zRep⟩ ∧ post = ⟨(n : Nat), false, x.1, x.2⟩ :: pairs n d2
  | [], pre, h => by simp [pairs] at h
  | x :: d, pre, h => by
    match pre, h with
    | [], h =>
      have h' : (⟨(n : Nat), true, x.1, zRep⟩ : PMo) :: ⟨(n : Nat), false, x.1, x.2⟩ :: pairs n d = b :: post := h
      injection h' with e1 e2
      exact ⟨x, [], d, rfl, rfl, e1.symm, e2.symm⟩
    | [y], h =>
      have h' : (⟨(n : Nat), true, x.1, zRep⟩ : PMo) :: ⟨(n : Nat), false, x.1, x.2⟩ :: pairs n d = y :: b :: post := h
      injection h' with _ e2
      injection e2 with e2 _
      rw [← e2] at hb
      cases hb
    | y :: z :: pre, h =>
      have h' : (⟨(n : Nat), true, x.1, zRep⟩ : PMo) :: ⟨(n : Nat), false, x.1, x.2⟩ :: pairs n d = y :: z :: (pre ++ b :: post) := h
      injection h' with e1 e2
      injection e2 with e2 e3
      obtain ⟨x', d1, d2, k1, k2, k3, k4⟩ := pairs_split n hb d pre e3
      exact ⟨x', x :: d1, d2, by rw [k1]; rfl, by rw [k2, ← e1, ← e2]; rfl, k3, k4⟩
theorem first_of (n : Nat) : ∀ (l : List PMo) (e : PMo) (rest : List PMo), proj n l = e :: rest → ∃ k, ∃ h : k < l.length, l[k]'h = e ∧ e.f0 = (n : Int) ∧ ∀ k' (h' : k' < l.length), k' < k → (l[k']'h').f0 ≠ (n : Int)
  | [], e, rest, h => by simp [proj] at h
  | x :: l, e, rest, h => by
    unfold proj at h
    rw [List.filter_cons] at h
    by_cases hx : x.f0 = (n : Int)
    · rw [if_pos (by simp [hx])] at h
      injection h with h1 _
      exact ⟨0, by simp, h1, by rw [← h1]; exact hx, fun k' _ hk => by omega⟩
    · rw [if_neg (by simp [hx])] at h
      obtain ⟨k, hk, h1, h2, h3⟩ := first_of n l e rest h
      refine ⟨k + 1, by simpa using hk, by simpa using h1, h2, fun k' hk' hlt => ?_⟩
      match k', hk', hlt with
      | 0, _, _ => exact hx
      | k' + 1, hk', hlt => exact h3 k' (by simpa using hk') (by omega)
theorem proj_append (n : Nat) (l m : List PMo) : proj n (l ++ m) = proj n l ++ proj n m := List.filter_append ..
/-- a beginning and its end -/
theorem OverH.next {l0 : List (List POp)} {H : List PMo} (h : OverH l0 H) {i : Nat} (hi : i < H.length) (hb : (mo H i).f1 = true) :
    ∃ k, i < k ∧ k < H.length ∧ (mo H k).f0 = (mo H i).f0 ∧ (mo H k).f1 = false ∧ (mo H k).f2 = (mo H i).f2 ∧ ∀ k', i < k' → k' < k → (mo H k').f0 ≠ (mo H i).f0 := by
  rw [mo_get hi] at hb ⊢
  obtain ⟨n, hn, hf⟩ := h.rng _ (List.getElem_mem hi)
  obtain ⟨d, hd, _⟩ := h.cl n hn
  have hs : H = H.take i ++ H[i] :: H.drop (i + 1) := by rw [← List.drop_eq_getElem_cons hi, List.take_append_drop]
  have hp : proj n H = proj n (H.take i) ++ H[i] :: proj n (H.drop (i + 1)) := by
    conv => lhs; rw [hs]
    rw [proj_append]
    congr 1
    unfold proj
    rw [List.filter_cons, if_pos (by simp [hf])]
  rw [hd] at hp
  obtain ⟨x, d1, d2, _, _, hbx, hpost⟩ := pairs_split n hb d _ hp
  obtain ⟨k, hk, h1, h2, h3⟩ := first_of n _ _ _ hpost
  rw [List.length_drop] at hk
  have hk2 : i + 1 + k < H.length := by omega
  rw [List.getElem_drop] at h1
  refine ⟨i + 1 + k, by omega, hk2, ?_⟩
  rw [mo_get hk2, h1]
  refine ⟨by rw [hf], rfl, by rw [hbx], fun k' hk1 hk3 => ?_⟩
  have hk4 : k' < H.length := by omega
  rw [mo_get hk4, hf]
  have := h3 (k' - (i + 1)) (by rw [List.length_drop]; omega) (by omega)
  rw [List.getElem_drop] at this
  have e : i + 1 + (k' - (i + 1)) = k' := by omega
  simpa [e] using this
theorem callL_mem {H : List PMo} {nx : Nat → Nat} {c : PCall} : ∀ {i : Nat}, c ∈ callL H nx i → ∃ p, p < i ∧ (mo H p).f1 = true ∧ c = ⟨(p : Int), (nx p : Nat), (mo H p).f2, (mo H (nx p)).f3⟩
  | 0, h => by cases h
  | i + 1, h => by
    unfold callL at h
    rcases List.mem_append.1 h with q | q
    · obtain ⟨p, h1, h2⟩ := callL_mem q
      exact ⟨p, by omega, h2⟩
    · by_cases e : (mo H i).f1 = true
      · rw [if_pos e, List.mem_singleton] at q
        exact ⟨i, by omega, e, q⟩
      · rw [if_neg e] at q
        cases q
theorem callL_rest {H : List PMo} {nx : Nat → Nat} (n : Nat) : ∀ {i : Nat}, i ≤ H.length → ((callL H nx i).filter fun (c : PCall) => decide ((rd_T52 H c.f0).f0 = (n : Int))).map (·.f2) = ((proj n (H.take i)).filter fun (m : PMo) => m.f1).map (·.f2)
  | 0, _ => rfl
  | i + 1, hi => by
    have hil : i < H.length := by omega
    have ih := callL_rest (H := H) (nx := nx) n (i := i) (by omega)
    unfold callL
    rw [List.filter_append, List.map_append, ih, List.take_succ_eq_append_getElem hil, proj_append, List.filter_append, List.map_append]
    congr 1
    rw [← mo_get hil]
    unfold proj
    by_cases e : (mo H i).f1 = true
    · rw [if_pos e]
      by_cases q : (mo H i).f0 = (n : Int)
      · simp [q, e]
      · simp [q]
    · rw [if_neg e]
      by_cases q : (mo H i).f0 = (n : Int)
      · simp [q, e]
      · simp [q]
theorem endC_ce {H : List PMo} : ∀ {i : Nat}, i ≤ H.length → endC H i = ce (H.take i)
  | 0, _ => rfl
  | i + 1, hi => by
    have hil : i < H.length := by omega
    have ih := endC_ce (H := H) (i := i) (by omega)
    show endC H i + (if (mo H i).f1 = true then 0 else 1) = _
    unfold ce at *
    rw [ih, List.take_succ_eq_append_getElem hil, List.filter_append, List.length_append, ← mo_get hil]
    by_cases e : (mo H i).f1 = true
    · simp [e]
    · simp [e]
theorem cbce (H : List PMo) : cb H + ce H = H.length := by
  induction H with
  | nil => rfl
  | cons m H ih =>
    unfold cb ce at *
    rw [List.filter_cons, List.filter_cons]
    cases m.f1 <;> simp <;> omega
theorem pairs_begs (n : Nat) : ∀ d : List (POp × PRep), ((pairs n d).filter fun (m : PMo) => m.f1).map (·.f2) = d.map (·.1)
  | [] => rfl
  | x :: d => by
    have := pairs_begs n d
    simp [pairs, this]
theorem OverH.ends {l0 : List (List POp)} {H : List PMo} (h : OverH l0 H) (hl : H.length ≤ 16777216) : ∃ nx, EndsOk l0 H nx := by
  obtain ⟨nx, hnx⟩ : ∃ nx : Nat → Nat, ∀ i, i < H.length → (mo H i).f1 = true → i < nx i ∧ nx i < H.length ∧ (mo H (nx i)).f0 = (mo H i).f0 ∧ (mo H (nx i)).f1 = false ∧ (mo H (nx i)).f2 = (mo H i).f2 ∧ ∀ k', i < k' → k' < nx i → (mo H k').f0 ≠ (mo H i).f0 := by
    have : ∀ i, ∃ k, i < H.length → (mo H i).f1 = true → i < k ∧ k < H.length ∧ (mo H k).f0 = (mo H i).f0 ∧ (mo H k).f1 = false ∧ (mo H k).f2 = (mo H i).f2 ∧ ∀ k', i < k' → k' < k → (mo H k').f0 ≠ (mo H i).f0 := fun i => by
      by_cases hi : i < H.length ∧ (mo H i).f1 = true
      · obtain ⟨k, hk⟩ := h.next hi.1 hi.2
        exact ⟨k, fun _ _ => hk⟩
      · exact ⟨0, fun a b => absurd ⟨a, b⟩ hi⟩
    exact ⟨fun i => Classical.choose (this i), fun i => Classical.choose_spec (this i)⟩
  refine ⟨nx, ⟨⟨fun i hi hb => ⟨(hnx i hi hb).1, (hnx i hi hb).2.1⟩, fun i hi hb => (hnx i hi hb).2.2.1, fun i hi hb => (hnx i hi hb).2.2.2.1, fun i hi hb => (hnx i hi hb).2.2.2.2.1, fun i hi hb => (hnx i hi hb).2.2.2.2.2⟩, ?_, fun j c hc => ?_, fun n hn => ?_, hl⟩⟩
  · have h1 := endC_ce (H := H) (i := H.length) (Nat.le_refl _)
    have h2 := callL_len H nx H.length
    have h3 := cbce H
    have h4 := h.bal
    rw [List.take_length] at h1
    omega
  · obtain ⟨p, hp, hb, rfl⟩ := callL_mem (List.mem_of_getElem? hc)
    obtain ⟨n, hn, hf⟩ := h.rng _ (List.getElem_mem hp)
    exact ⟨p, n, rfl, hp, hn, by rw [mo_get hp]; exact hf⟩
  · unfold restC
    rw [List.drop_zero, callL_rest n (Nat.le_refl _), List.take_length]
    obtain ⟨d, hd, hd2⟩ := h.cl n hn
    rw [hd, pairs_begs, hd2]
theorem play_ends {l0 : List (List POp)} {scr : List Int} {H : List PMo} (hM : 11 * (l0.map List.length).sum ≤ 16777216) (hl : ¬ 64 < l0.length) (h : PlayEnd l0 scr H) : ∃ nx, EndsOk l0 H nx := by
  obtain ⟨h1, h2⟩ := play_over h hl
  exact h1.ends (by have := mu_init l0; omega)
end Go.Proofs.Ytihjpbalkjhjbaa
namespace Go.Proofs.Ytihjpbalkjhjbaa
theorem bulk_pos {H : Type} (d : DataW H) : 1 ≤ Rows.uptoBulk d := by
  cases d with
  | lit l => cases l <;> simp [Rows.uptoBulk]
  | _ => simp [Rows.uptoBulk]
end Go.Proofs.Ytihjpbalkjhjbaa
namespace Go.Proofs.Ytihjpbalkjhjbaa
open Go.ChangeShapes Go.WideShapes Go.RowKit Go.Deep Go.Proofs.YtihjpbalkjhjbaaW.PrintWords
section
variable {H : Type} {enc : TypeId × Value → H} {P : Program} {W : World} {sp : Nat → Bool} {held : Bool}
/-- sz: so much of the bound a value takes at least -/
def OpensB (enc : TypeId × Value → H) (P : Program) (W : World) (sp : Nat → Bool) (held : Bool) (t : TypeId) {α : Type} (K : Kd α) (sz : α → Nat) : Prop :=
  ∀ (fuel base : Nat) (cs : List Value) (x : DataW H × List MemPlace), DataW.trod enc P W base sp held fuel t cs = some x → ∃ a, K.K W a cs ∧ sz a ≤ Rows.uptoBulk x.1
theorem OpensB.imp {t : TypeId} {α : Type} {K : Kd α} {sz sz' : α → Nat} (h : OpensB enc P W sp held t K sz) (hs : ∀ a, sz' a ≤ sz a) : OpensB enc P W sp held t K sz' := fun fuel base cs x hx =>
  let ⟨a, h1, h2⟩ := h fuel base cs x hx
  ⟨a, h1, Nat.le_trans (hs a) h2⟩
theorem opensB_int {t : TypeId} {k : IntKind} (ht : P.underlying t = some (.int k)) : OpensB enc P W sp held t (Kd.int k) (fun _ => 1) := by
  intro fuel base cs x h
  obtain ⟨n, h1, _, h2⟩ := DataW.trod_int ht h
  exact ⟨n, h1, bulk_pos _⟩
theorem opensB_string {t : TypeId} (ht : P.underlying t = some .string) : OpensB enc P W sp held t Kd.string (fun s => s.size + 1) := by
  intro fuel base cs x h
  obtain ⟨s, h1, h2, _⟩ := DataW.trod_string ht h
  refine ⟨s, h1, ?_⟩
  rw [h2]
  simp [Rows.uptoBulk]
theorem blist_of_ex {α : Type} {p : Nat → α → Prop} : ∀ n : Nat, (∀ i, i < n → ∃ a, p i a) → ∃ l : List α, l.length = n ∧ ∀ i a, l[i]? = some a → p i a := by
  intro n
  induction n with
  | zero => intro _; exact ⟨[], rfl, fun i a h => by simp at h⟩
  | succ n ih =>
    intro h
    obtain ⟨l, h1, h2⟩ := ih fun i hi => h i (by omega)
    obtain ⟨a, ha⟩ := h n (by omega)
    refine ⟨l ++ [a], by simp [h1], fun i b hb => ?_⟩
    rcases Nat.lt_or_ge i l.length with q | q
    · rw [List.getElem?_append_left q] at hb
      exact h2 i b hb
    · rw [List.getElem?_append_right q] at hb
      rcases Nat.eq_zero_or_pos (i - l.length) with z | z
      · rw [z] at hb
        obtain rfl := Option.some.inj hb
        obtain rfl : i = n := by omega
        exact ha
      · rw [List.getElem?_eq_none (by simp; omega)] at hb
        cases hb
theorem bulk_sum {α : Type} {sz : α → Nat} : ∀ (l : List α) (ds : List (DataW H)), l.length = ds.length → (∀ (i : Nat) (a : α) (d : DataW H), l[i]? = some a → ds[i]? = some d → sz a ≤ Rows.uptoBulk d) → (l.map sz).sum ≤ Rows.uptoBulkAll ds
  | [], _, _, _ => Nat.zero_le _
  | a :: l, [], h, _ => by simp at h
  | a :: l, d :: ds, h, hs => by
    have h1 := bulk_sum l ds (by simpa using h) fun i a' d' q1 q2 => hs (i + 1) a' d' (by simpa using q1) (by simpa using q2)
    have h2 := hs 0 a d rfl rfl
    simp only [List.map_cons, List.sum_cons, Rows.uptoBulkAll]
    omega
theorem opensB_slice {t e : TypeId} {α : Type} {K : Kd α} {sz : α → Nat} (ht : P.underlying t = some (.slice e)) (hc : P.cellsOf e = K.sz) (h : OpensB enc P W sp held e K sz) :
    OpensB enc P W sp held t (Kd.slice e K) (fun l => (l.map sz).sum + 1) := by
  intro fuel base cs x hx
  rcases open_slice ht hx with ⟨rfl, _⟩ | ⟨a, len, cap, m, n, D, Pl, rfl, _, hl, hm, hmm, rfl, hi⟩
  · exact ⟨[], ⟨none, 0, rfl, Nat.le_refl _, rfl, Nat.zero_le _, fun q => by cases q⟩, by simpa using bulk_pos x.1⟩
  · have hlm : len ≤ m := by rw [hmm]; split <;> omega
    obtain ⟨l, l1, l2⟩ := blist_of_ex (p := fun i (y : α) => (∃ c : List Value, c.length = K.sz ∧ K.K W y c ∧ ∀ j u, c[j]? = some u → W.cell? (a.add (i * K.sz + j)) = some u) ∧ sz y ≤ Rows.uptoBulk (D i)) len fun i hin => by
      obtain ⟨cs', c1, c2⟩ := hi i (by omega)
      obtain ⟨y, y1, y2⟩ := h _ _ _ _ c2
      obtain ⟨_, c3, c4⟩ := World.cells?_some c1
      rw [hc] at c3 c4
      refine ⟨y, ⟨cs', c3, y1, fun j u hu => ?_⟩, y2⟩
      have hj : j < K.sz := by rw [← c3]; exact (List.getElem?_eq_some_iff.1 hu).1
      have := c4 j hj
      rw [hu, Go.Deep.add_add] at this
      exact this
    subst l1
    unfold maxLen at hm
    refine ⟨l, ⟨some a, cap, rfl, hl, rfl, by omega, fun _ => ⟨a, rfl, fun j p hp => (l2 j p hp).1⟩⟩, ?_⟩
    have hs := bulk_sum (sz := sz) l ((List.range l.length).map D) (by simp) fun i y d q1 q2 => by
      have hil := (List.getElem?_eq_some_iff.1 q1).1
      rw [List.getElem?_map, List.getElem?_range hil] at q2
      cases q2
      exact (l2 i y q1).2
    simp only [Rows.uptoBulk]
    omega
def OpensFB (enc : TypeId × Value → H) (P : Program) (W : World) (sp : Nat → Bool) (held : Bool) (fs : List Field) (off : Nat) {α : Type} (K : Kd α) (sz : α → Nat) : Prop :=
  ∀ (n base : Nat) (cs : List Value) (ys : List (DataW H × List MemPlace)), (∀ (i : Nat) (f : Field), fs[i]? = some f → DataW.trod enc P W base sp held n f.type ((cs.drop f.offset).take (P.cellsOf f.type)) = ys[i]?) →
    ys.length = fs.length → cs.length = off + K.sz → ∃ a, K.K W a (cs.drop off) ∧ sz a ≤ Rows.uptoBulkAll (ys.map (·.1))
theorem opensFB_one {f : Field} {off : Nat} {α : Type} {K : Kd α} {sz : α → Nat} (ho : f.offset = off) (hc : P.cellsOf f.type = K.sz) (h : OpensB enc P W sp held f.type K sz) : OpensFB enc P W sp held [f] off K sz := by
  intro n base cs ys hy hl hcs
  match ys, hl with
  | [y], _ =>
    have h0 := hy 0 f rfl
    rw [ho, hc, List.take_of_length_le (by rw [List.length_drop]; omega)] at h0
    obtain ⟨a, h1, h2⟩ := h _ _ _ _ h0
    exact ⟨a, h1, by simpa [Rows.uptoBulkAll] using h2⟩
theorem opensFB_cons {f : Field} {fs : List Field} {off : Nat} {α β : Type} {K0 : Kd α} {sz0 : α → Nat} {K1 : Kd β} {sz1 : β → Nat} (ho : f.offset = off) (hc : P.cellsOf f.type = K0.sz) (h0 : OpensB enc P W sp held f.type K0 sz0) (h1 : OpensFB enc P W sp held fs (off + K0.sz) K1 sz1) :
    OpensFB enc P W sp held (f :: fs) off (Kd.pair K0 K1) (fun p => sz0 p.1 + sz1 p.2) := by
  intro n base cs ys hy hl hcs
  match ys, hl with
  | y :: ys, hl =>
    have e0 := hy 0 f rfl
    rw [ho, hc] at e0
    have hcs' : cs.length = off + (K0.sz + K1.sz) := hcs
    obtain ⟨a, a1, a2⟩ := h0 _ _ _ _ e0
    obtain ⟨b, b1, b2⟩ := h1 n base cs ys (fun i g hg => hy (i + 1) g hg) (by simpa using hl) (by omega)
    refine ⟨(a, b), ⟨_, _, ?_, a1, b1⟩, ?_⟩
    · rw [← List.drop_drop, List.take_append_drop]
    · simp only [List.map_cons, Rows.uptoBulkAll]
      omega
theorem opensB_struct {t : TypeId} {fs : Array Field} {α β : Type} {K : Kd α} {sz : α → Nat} (f : β → α) (g : α → β) (hfg : ∀ a, f (g a) = a) (ht : P.underlying t = some (.struct fs)) (hc : P.cellsOf t = K.sz) (h : OpensFB enc P W sp held fs.toList 0 K sz) :
    OpensB enc P W sp held t (Kd.iso K f) (fun b => sz (f b) + 1) := by
  intro fuel base cs x hx
  obtain ⟨ys, n, _, rfl, hl, hyl, hf⟩ := DataW.trod_struct ht hx
  obtain ⟨a, a1, a2⟩ := h n base cs ys (fun i q hq => hf i q (by simpa using hq)) (by simpa using hyl) (by rw [hl, hc, Nat.zero_add])
  refine ⟨g a, by show K.K W (f (g a)) cs; rw [hfg]; exact a1, ?_⟩
  simp only [Rows.uptoBulk, hfg]
  omega
/-- a slice that a law takes -/
theorem opensB_arg {t e : TypeId} {α : Type} {K : Kd α} {sz : List α → Nat} {A : Option Addr} {n c : Nat} {d : DataW H} {p : List MemPlace} (ht0 : P.underlying t = some (.slice e)) (h : OpensB enc P W (fun _ => true) held t (Kd.slice e K) sz) {base : Nat} (ht : DataW.Trod enc P W base (fun _ => true) held t (.slice A n c) d p) :
    ∃ l : List α, n = l.length ∧ l.length ≤ c ∧ Kd.C K W A l.length l ∧ sz l ≤ Rows.uptoBulk d ∧ c ≤ 9223372036854775807 := by
  obtain ⟨fuel, hf⟩ := ht
  have hcap : c ≤ 9223372036854775807 := by
    rcases open_slice ht0 hf with ⟨q, _⟩ | ⟨a, len, cap, m, n', D, Pl, q, _, hl, hm, hmm, _, hi⟩
    · simp [Value.cells] at q
      omega
    · simp [Value.cells] at q
      obtain ⟨_, _, q⟩ := q
      have hm' : m = cap := by simpa using hmm
      unfold maxLen at hm
      omega
  obtain ⟨l, ⟨A', c', h1, h2, h3⟩, h4⟩ := h _ _ _ _ hf
  have h1' : [Value.slice A n c] = [Value.slice A' l.length c'] := h1
  injection h1' with h1' _
  injection h1' with e1 e2 e3
  subst e1; subst e3
  exact ⟨l, e2, h2, h3, h4, hcap⟩
end
end Go.Proofs.Ytihjpbalkjhjbaa
namespace Go.Proofs.Ytihjpbalkjhjbaa
open Go.ChangeShapes Go.WideShapes Go.ChangeAt Go.RowKit Go.Deep
theorem own : ownKnob Try.prog.godebug = none := by kernel_rfl
theorem laidOut : laidOutB Try.prog = true := by kernel_rfl
section
variable {H : Type} {enc : TypeId × Value → H} {P : Program} {w : World} {base : Nat} {spare : Nat → Bool} {held : Bool}
end
end Go.Proofs.Ytihjpbalkjhjbaa
