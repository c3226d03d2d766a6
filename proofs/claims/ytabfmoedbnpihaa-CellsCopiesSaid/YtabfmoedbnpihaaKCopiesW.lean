/- A step towards the laws on the cells of a run: the walk of CellsCopies. No conditions of its own beyond those that its theorems name. -/
import Derived.Test.YtabfmoedbnpihaaKCopies
namespace Go.Proofs.Ytabfmoedbnpihaa
open Go.RowKit Go.MapKept

theorem Only.cell' {w w1 : World} (h : Fresh w w1) {p : Addr} (hp : p.block < w.heap.size) : w1.cell? p = w.cell? p := Only.cell h hp (fun q => q)

set_option maxRecDepth 200000 in
set_option maxHeartbeats 1000000 in
theorem copies_walk (w : World) (fields : Int) (heap : Bool) (A : Option Addr) (n C : Nat) (xs : List (Int × Int)) (hv : Vals w A n xs) (hn : n ≤ 9223372036854775807) :
    Calls Try.prog 3 #[.int .i64 fields, .bool heap, .slice A n C] w fun e w' => e = .returned (.bool true) ∧ Fresh w w' := by
  have HVS := Lib.hid hv
  clear hv
  have hm0 : 0 ≤ fields % 8 := by omega
  have hm7 : fields % 8 ≤ 7 := by omega
  obtain ⟨f1, f2, f3, f4, f5⟩ := cp_facts (1 + fields % 8) heap (by omega) (by omega)
  have HF := Lib.hid (And.intro f1 (And.intro f2 (And.intro f3 (And.intro f4 f5))))
  clear f1 f2 f3 f4 f5
  go_enter Try.func3, Try.ntmps3
  go_wp2_with fail
  refine (fixed_any w).mono ?_
  rintro e w0 ⟨rfl, F0⟩
  have HF0 := Lib.hid F0
  clear F0
  go_wp2_with fail
  refine (own_new w w0 HF0.out 1).mono ?_
  rintro e w1 ⟨p, l1, rfl, O1, _, _⟩
  have H1 := Lib.hid O1
  clear O1
  go_wp2_with fail
  refine (Own.push (M := cp0) H1.out (by decide)).mono ?_
  rintro e w2 ⟨rfl, l2, O2, X2⟩
  have H2 := Lib.hid O2
  clear O2 X2
  go_wp2_with fail
  have h := Own.make (M := cp1) H2.out 1 true (by decide) (by decide) (by decide)
  rw [show cp1.mkN 1 = 1 from rfl, show cp1.mkErr 1 = 0 from rfl] at h
  refine h.mono ?_
  clear h
  rintro e w3 ⟨rfl, l3, O3, X3⟩
  have H3 := Lib.hid O3
  clear O3 X3
  go_wp2_with fail
  refine (Own.push (M := cp2) H3.out (by decide)).mono ?_
  rintro e w4 ⟨rfl, l4, O4, X4⟩
  have H4 := Lib.hid O4
  clear O4 X4
  go_wp2_with fail
  refine (mod_any w4 fields 8 (by omega) (by omega)).mono ?_
  rintro e w5 ⟨rfl, rfl⟩
  go_wp2_with fail
  have h := Own.make (M := cp3) H4.out (1 + fields % 8) heap (by decide) (by decide) (by decide)
  rw [HF.out.1, HF.out.2.1] at h
  refine h.mono ?_
  clear h
  rintro e w5 ⟨rfl, l5, O5, X5⟩
  have H5 := Lib.hid O5
  clear O5 X5
  go_wp2_with fail
  have HU := Lib.hid (H5.out.out_new (.cells #[.int .i64 2, .int .i64 2] 32))
  have hp0 := new_blk (w := w5) (.cells #[.int .i64 2, .int .i64 2] 32)
  have h := Own.store (M := cp4 (1 + fields % 8) heap) (H5.out.alloc (.cells #[.int .i64 2, .int .i64 2] 32)) (2, 1) (2, 2) 0
  rw [HF.out.2.2.1] at h
  refine h.mono ?_
  clear h
  rintro e w6 ⟨rfl, l6, O6, X6⟩
  have H6 := Lib.hid O6
  have HU6 := Lib.hid (X6.out HU.out)
  have hp6 := X6.blk HU.out hp0
  have c60 : w6.cell? ⟨w5.heap.size, 0, none⟩ = some (.int .i64 2) := blk_cell hp6 rfl
  have c61 : w6.cell? ⟨w5.heap.size, 1, none⟩ = some (.int .i64 2) := blk_cell hp6 rfl
  have HP6 := Lib.hid hp6
  clear O6 X6 hp0 hp6
  go_wp2_with fail
  have h := Own.setGlobal (M := cp5 (1 + fields % 8) heap) H6.out 0 (2, 2)
  rw [HF.out.2.2.2.1] at h
  refine h.mono ?_
  clear h
  rintro e w7 ⟨rfl, l7, O7, X7⟩
  have H7 := Lib.hid O7
  have HU7 := Lib.hid (X7.out HU6.out)
  have HP7 := Lib.hid (X7.blk HU6.out HP6.out)
  clear O7 X7 c60 c61
  generalize w5.heap.size = pb at *
  have HC7 := Lib.hid (HF.out.2.2.2.2)
  go_wp2_with fail
  go_loopw [16] (fun s16 wr => ∃ (i : Nat) (M : PM) (lab : Lab), i ≤ n ∧ s16 = .int .i64 i ∧ Own w wr p lab M ∧ CInv heap 0 M ∧ Out wr lab pb ∧ wr.heap[pb]? = some (.cells #[.int .i64 2, .int .i64 2] 32 (0, 0))) (fun s16 _ => n - (intOf s16).toNat)
  case atStart => exact ⟨0, _, l7, Nat.zero_le _, rfl, H7.out, HC7.out, HU7.out, HP7.out⟩
  case round =>
    obtain ⟨i, M, lab, hi, rfl, O, I, U, hp⟩ := hrel
    have c0 : wr.cell? ⟨pb, 0, none⟩ = some (.int .i64 2) := blk_cell hp rfl
    have c1 : wr.cell? ⟨pb, 1, none⟩ = some (.int .i64 2) := blk_cell hp rfl
    have HO := Lib.hid O
    have HI := Lib.hid I
    have HUU := Lib.hid U
    have HPP := Lib.hid hp
    clear O I U hp
    by_cases hlt : i < n
    · obtain ⟨x, hx⟩ : ∃ x, xs[i]? = some x := ⟨xs[i]'(by have := HVS.out.1; omega), List.getElem?_eq_getElem _⟩
      obtain ⟨b, o, rfl, hb, hx0, hx1⟩ := HVS.out.2 i x hx
      have e0 : wr.cell? ⟨b, o + i * 2, none⟩ = some (.int .i64 x.1) := (Only.cell' HO.out.fresh (p := ⟨b, _, none⟩) hb).trans hx0
      have e1 : wr.cell? ⟨b, o + i * 2 + 1, none⟩ = some (.int .i64 x.2) := (Only.cell' HO.out.fresh (p := ⟨b, _, none⟩) hb).trans hx1
      clear hx hx0 hx1
      obtain ⟨k, v⟩ := x
      dsimp only at e0 e1
      by_cases hk : k = 1
      · subst hk
        go_wp2_with fail
        refine wp_region_still_tail 11 (by kernel_rfl) (by kernel_rfl) ?_
        simp only [List.take_succ_cons, List.take_zero, List.drop_succ_cons, List.drop_zero]
        repeat still_step
        have hq1 : (1 : Int) ≤ 1 + fields % 8 := by omega
        have hq2 : 1 + fields % 8 ≤ 4611686018427387904 := by omega
        have hc1 := (mod_any wr.drew fields 8 (by omega) (by omega)).mono (R' := fun e w' => e = .returned (.int .i64 (fields % 8)) ∧ w' = wr.drew) fun _ _ h => ⟨h.1, h.2.symm⟩
        have hc2 := (mod_any wr.drew i (1 + fields % 8) hq1 hq2).mono (R' := fun e w' => e = .returned (.int .i64 ((i : Int) % (1 + fields % 8))) ∧ w' = wr.drew) fun _ _ h => ⟨h.1, h.2.symm⟩
        have HC1 := Lib.hid hc1
        have HC2 := Lib.hid hc2
        have hww : IntKind.i64.wrap (1 + fields % 8) = 1 + fields % 8 := IntWalk.i64_in _ (by omega)
        clear hc1 hc2 hq1 hq2
        still_call HC1.out
        repeat still_step
        still_call HC2.out
        repeat still_step
        refine wpStill_nil ?_
        clear hww
        go_wp2_with fail
        refine (Own.store (M := M) (HO.out.keep (Only.refl _ _).drew) (2, 2) (1, v) _).mono ?_
        rintro e w8 ⟨rfl, lab2, O2, X2⟩
        have HO2 := Lib.hid O2
        have HX2 := Lib.hid X2
        clear O2 X2
        go_wp2_with fail
        go_roundw
        case rel => exact ⟨i + 1, _, lab2, by omega, by go_num, HO2.out, HI.out.store _ _, HX2.out.out ⟨HUU.out.1, HUU.out.2⟩, HX2.out.blk ⟨HUU.out.1, HUU.out.2⟩ HPP.out⟩
        case measure => simp [intOf]; omega
      · have hk' : (k == 1) = false := by simp [hk]
        go_wp2_with fail
        go_roundw
        case rel => exact ⟨i + 1, M, lab, by omega, by go_num, HO.out, HI.out, HUU.out, HPP.out⟩
        case measure => simp [intOf]; omega
    · go_wp2_with fail
      go_loopw [17] (fun s17 wr => ∃ (turn : Nat) (M : PM) (lab : Lab), turn ≤ 2 ∧ s17 = .int .i64 turn ∧ Own w wr p lab M ∧ CInv heap turn M ∧ Out wr lab pb ∧ wr.heap[pb]? = some (.cells #[.int .i64 2, .int .i64 2] 32 (0, 0))) (fun s17 _ => 2 - (intOf s17).toNat)
      case atStart => exact ⟨0, M, lab, by omega, rfl, HO.out, HI.out, HUU.out, HPP.out⟩
      case round =>
        clear HO HI HUU HPP c0 c1
        obtain ⟨turn, M, lab, htn, rfl, O, I, U, hp⟩ := hrel
        have HO := Lib.hid O
        have HI := Lib.hid I
        have HUU := Lib.hid U
        have HPP := Lib.hid hp
        clear O I U hp
        by_cases ht : turn < 2
        · go_wp2_with fail
          have h := Own.load HO.out (2, 1) 0
          rw [HI.out.load_box.1, HI.out.load_box.2] at h
          refine h.mono ?_
          clear h
          rintro e wa ⟨rfl, Oa, Fa⟩
          have HOa := Lib.hid Oa
          have HFa := Lib.hid Fa
          clear Oa Fa
          go_wp2_with fail
          have h := Own.global (HOa.out.alloc (.cells #[.int .i64 2, .int .i64 2] 32)) 0
          rw [HI.out.global.1, HI.out.global.2] at h
          refine h.mono ?_
          clear h
          rintro e wb ⟨rfl, Ob, Fb⟩
          have HOb := Lib.hid Ob
          have HUb := Lib.hid ((HUU.out.fresh (HFa.out.alloc (.cells #[.int .i64 2, .int .i64 2] 32))).fresh Fb)
          have HPb := Lib.hid (Fb.cell (blk_alloc (HFa.out.cell HPP.out) (.cells #[.int .i64 2, .int .i64 2] 32)))
          have HQU := Lib.hid ((HOa.out.out_new (.cells #[.int .i64 2, .int .i64 2] 32)).fresh Fb)
          have HQb := Lib.hid (Fb.cell (new_blk (w := wa) (.cells #[.int .i64 2, .int .i64 2] 32)))
          clear Ob Fb
          generalize wa.heap.size = qb at *
          have b0 : wb.cell? ⟨pb, 0, none⟩ = some (.int .i64 2) := blk_cell HPb.out rfl
          have b1 : wb.cell? ⟨pb, 1, none⟩ = some (.int .i64 2) := blk_cell HPb.out rfl
          have b2 : wb.cell? ⟨qb, 0, none⟩ = some (.int .i64 2) := blk_cell HQb.out rfl
          have b3 : wb.cell? ⟨qb, 1, none⟩ = some (.int .i64 2) := blk_cell HQb.out rfl
          have b4 := blk_lt HPb.out
          have b5 := blk_lt HQb.out
          go_wp2_with fail
          have HRb := Lib.hid (new_blk (w := wb) (.cells #[.int .i64 2, .int .i64 2] 32))
          have HPb' := Lib.hid (blk_alloc HPb.out (.cells #[.int .i64 2, .int .i64 2] 32))
          have HQb' := Lib.hid (blk_alloc HQb.out (.cells #[.int .i64 2, .int .i64 2] 32))
          have HOb' := Lib.hid (HOb.out.alloc (.cells #[.int .i64 2, .int .i64 2] 32))
          have HUb' := Lib.hid (HUb.out.fresh ((Only.refl wb (fun _ => False)).alloc (.cells #[.int .i64 2, .int .i64 2] 32)))
          clear b0 b1 b2 b3 b4 b5 HPb HQb HOb HUb HQU HOa HFa
          generalize wb.heap.size = rb at *
          generalize hwe : wb.alloc (.cells #[.int .i64 2, .int .i64 2] 32) = we at *
          clear hwe
          go_loopw [22] (fun s22 wi => ∃ k : Nat, k ≤ 9 ∧ s22 = .int .i64 k ∧ Fresh we wi) (fun s22 _ => 9 - (intOf s22).toNat)
          case atStart => exact ⟨0, by omega, rfl, Only.refl _ _⟩
          case round =>
            obtain ⟨k, hk9, rfl, hfi⟩ := hrel
            have HFI := Lib.hid hfi
            clear hfi
            by_cases hk : k ≤ 8
            · obtain ⟨va, hva⟩ : ∃ va, va = M.load (2, 2) k := ⟨_, rfl⟩
              obtain ⟨er, her⟩ : ∃ er, er = M.err (2, 2) k := ⟨_, rfl⟩
              have HE := Lib.hid (HI.out.err k ht)
              rw [← her] at HE
              have HV := Lib.hid hva
              have HR := Lib.hid her
              clear hva her
              obtain ⟨a1, a2⟩ := va
              have hlast : ∀ W, Own w W p lab M → Calls Try.prog 17 #[.pointer (some ⟨p, 0, none⟩), vv (2, 2), .int .i64 k] W fun e w2 => e = .returned (.tuple #[vv (a1, a2), .int .i64 er]) ∧ Own w w2 p lab M ∧ Fresh W w2 := by
                intro W hW
                have h := hW.load (2, 2) k
                rw [← HV.out, ← HR.out] at h
                exact h
              have HL := Lib.hid hlast
              clear hlast
              have hp1 := HFI.out.cell HPb'.out
              have d0 : wr.cell? ⟨pb, 0, none⟩ = some (.int .i64 2) := blk_cell hp1 rfl
              have d1 : wr.cell? ⟨pb, 1, none⟩ = some (.int .i64 2) := blk_cell hp1 rfl
              clear hp1
              have HO1 := Lib.hid (HOb'.out.keep HFI.out)
              have HQ1 := Lib.hid (HFI.out.cell HQb'.out)
              have HR1 := Lib.hid (HFI.out.cell HRb.out)
              go_wp2_with fail
              refine (HL.out _ HO1.out).mono ?_
              rintro e wc ⟨rfl, Oc, Fc⟩
              have HO2 := Lib.hid (Oc.alloc (.cells #[.int .i64 a1, .int .i64 a2] 32))
              have HF2 := Lib.hid ((HFI.out.trans' Fc).alloc (.cells #[.int .i64 a1, .int .i64 a2] 32))
              have HA2 := Lib.hid (new_blk (w := wc) (.cells #[.int .i64 a1, .int .i64 a2] 32))
              have hq := Fc.cell HQ1.out
              have q0 : wc.cell? ⟨qb, 0, none⟩ = some (.int .i64 2) := blk_cell hq rfl
              have q1 : wc.cell? ⟨qb, 1, none⟩ = some (.int .i64 2) := blk_cell hq rfl
              have q2 := blk_lt hq
              have HR2 := Lib.hid (blk_alloc (Fc.cell HR1.out) (.cells #[.int .i64 a1, .int .i64 a2] 32))
              clear Oc Fc hq d0 d1
              go_wp2_with fail
              refine (HL.out _ HO2.out).mono ?_
              rintro e wd ⟨rfl, Od, Fd⟩
              have HO3 := Lib.hid (Od.alloc (.cells #[.int .i64 a1, .int .i64 a2] 32))
              have HF3 := Lib.hid ((HF2.out.trans' Fd).alloc (.cells #[.int .i64 a1, .int .i64 a2] 32))
              have HA3 := Lib.hid (blk_alloc (Fd.cell HA2.out) (.cells #[.int .i64 a1, .int .i64 a2] 32))
              have HB3 := Lib.hid (new_blk (w := wd) (.cells #[.int .i64 a1, .int .i64 a2] 32))
              have hr := Fd.cell HR2.out
              have r0 : wd.cell? ⟨rb, 0, none⟩ = some (.int .i64 2) := blk_cell hr rfl
              have r1 : wd.cell? ⟨rb, 1, none⟩ = some (.int .i64 2) := blk_cell hr rfl
              have r2 := blk_lt hr
              clear Od Fd hr q0 q1 q2
              go_wp2_with fail
              refine (HL.out _ HO3.out).mono ?_
              rintro e we2 ⟨rfl, Oe, Fe⟩
              have HF4 := Lib.hid ((HF3.out.trans' Fe).alloc (.cells #[.int .i64 a1, .int .i64 a2] 32))
              have ha := Fe.cell HA3.out
              have hb := Fe.cell HB3.out
              have a0 : we2.cell? ⟨wc.heap.size, 0, none⟩ = some (.int .i64 a1) := blk_cell ha rfl
              have a1' : we2.cell? ⟨wc.heap.size, 1, none⟩ = some (.int .i64 a2) := blk_cell ha rfl
              have a2' := blk_lt ha
              have b0 : we2.cell? ⟨wd.heap.size, 0, none⟩ = some (.int .i64 a1) := blk_cell hb rfl
              have b1 : we2.cell? ⟨wd.heap.size, 1, none⟩ = some (.int .i64 a2) := blk_cell hb rfl
              have b2 := blk_lt hb
              clear Oe Fe ha hb r0 r1 r2
              by_cases ht1 : turn = 1
              · have hE := HE.out
                have hT : ((turn : Int) == 1) = true := by simp [ht1]
                rw [decide_eq_true ht1, Bool.true_and] at hE
                have HT1 := Lib.hid ht1
                clear ht1
                cases heap
                all_goals
                  simp only [Bool.not_true, Bool.not_false] at hE
                  go_wp2_with fail
                  go_roundw
                  case rel => exact ⟨k + 1, by omega, by go_num, HF4.out⟩
                  case measure => simp [intOf]; omega
              · have hE := HE.out
                have hT : ((turn : Int) == 1) = false := by
                  rw [beq_eq_false_iff_ne]
                  omega
                rw [decide_eq_false ht1, Bool.false_and] at hE
                have HT1 := Lib.hid ht1
                clear ht1
                go_wp2_with fail
                go_roundw
                case rel => exact ⟨k + 1, by omega, by go_num, HF4.out⟩
                case measure => simp [intOf]; omega
            · go_wp2_with fail
              have hfr := HI.out.frames
              have HO9 := Lib.hid (HOb'.out.keep HFI.out)
              have HU9 := Lib.hid (HUb'.out.fresh HFI.out)
              have HP9 := Lib.hid (HFI.out.cell HPb'.out)
              have h := HO9.out.pop (by rw [hfr]; split <;> (try split) <;> decide) (by
                rw [hfr]
                intro l hl
                split at hl
                · cases heap
                  · simp at hl
                    rcases hl with rfl | rfl <;> decide
                  · simp at hl
                    subst hl
                    decide
                · split at hl
                  · simp at hl
                    subst hl
                    decide
                  · simp at hl)
              refine h.mono ?_
              clear h hfr
              rintro e wz ⟨rfl, labz, Oz, Xz⟩
              have HOz := Lib.hid Oz
              have HXz := Lib.hid Xz
              clear Oz Xz
              go_wp2_with fail
              go_roundw
              case rel => exact ⟨turn + 1, _, labz, by omega, by go_num, HOz.out, HI.out.pop ht, HXz.out.out HU9.out, HXz.out.blk HU9.out HP9.out⟩
              case measure => simp [intOf]; omega
        · go_wp2_with fail
          go_ret
          exact ⟨rfl, HO.out.fresh⟩
end Go.Proofs.Ytabfmoedbnpihaa
