/- A step towards the laws on the cells of a run: the ledger's square. No conditions of its own beyond those that its theorems name. -/
import Derived.Test.YtabfmoedbnpihaaKAct3
namespace Go.Proofs.Ytabfmoedbnpihaa
open Go.RowKit Go.MapKept

theorem load_tells {w0 w1 W : World} {p : Nat} {lab : Lab} {M : PM} (h : Own w0 w1 p lab M) (f : Fresh w1 W) (x : Int × Int) (i : Int) {r : Int} (hr : M.err x i = r) {y : Int × Int} (hy : M.load x i = y) :
    Calls Try.prog 17 #[.pointer (some ⟨p, 0, none⟩), vv x, .int .i64 i] W fun e w2 => e = .returned (.tuple #[vv y, .int .i64 r]) ∧ Fresh W w2 := by
  have hc := (h.keep f).load x i
  rw [hr, hy] at hc
  exact hc.mono fun e w2 ⟨a, _, b⟩ => ⟨a, b⟩

set_option maxRecDepth 200000 in
set_option maxHeartbeats 16000000 in
theorem square_led {w0 w : World} {p q : Nat} {lab ll : Lab} {M : PM} {L : PL} (h : Shadow w0 w p q lab ll M L) (hz : Led M L) (hmd : M.made ≤ 1048576) :
    Calls Try.prog 22 #[.pointer (some ⟨q, 0, none⟩)] w fun e w' => e = .returned (.bool true) ∧ Fresh w w' := by
  obtain ⟨A, C, cs, hl⟩ := h.led
  have hlive := Own.live h.own hz.dom (by unfold Lim; omega)
  have hself := hl.self
  obtain ⟨N, hN⟩ : ∃ N, N = L.all.length := ⟨_, rfl⟩
  rw [← hN] at hself
  have c0 : w.cell? ⟨q, 0, none⟩ = some (.pointer (some ⟨p, 0, none⟩)) := blk_cell hself rfl
  have hq := blk_lt hself
  have hN9 : N ≤ 1048576 := by rw [hN, ← hz.made]; exact hmd
  have HSF := Lib.hid hself
  have HL := Lib.hid hl
  have HN := Lib.hid hN
  have HZ := Lib.hid hz
  have H := Lib.hid h
  have HLV := Lib.hid hlive
  clear h hz hmd hl hlive hself hN
  go_enter Try.func22, Try.ntmps22
  go_wp2_with fail
  refine HLV.out.mono ?_
  clear HLV c0
  rintro e w1 ⟨A1, C1, ss, rfl, hs, hls, O1, F1⟩
  have hss := HZ.out.live hs
  have HF1 := Lib.hid F1
  have HO1 := Lib.hid O1
  have HLS := Lib.hid hls
  obtain ⟨pn, hpn⟩ : ∃ k, k = ss.length := ⟨_, rfl⟩
  rw [← HN.out] at hss
  have HSS := Lib.hid hss
  have HPN := Lib.hid hpn
  rw [← hpn]
  have hpl : pn ≤ 1048576 := by
    rw [hpn, hss]
    unfold numsTo
    rw [List.length_map]
    refine Nat.le_trans (List.length_filter_le _ _) ?_
    simp
    omega
  have hcA : ∀ k x, ss[k]? = some x → ∃ g, A1 = some ⟨g, 0, none⟩ ∧ g < w1.heap.size ∧ w1.cell? ⟨g, k, none⟩ = some (.int .i64 x) := fun k x hx => by
    have hm : (ss.map (Value.int .i64))[k]? = some (.int .i64 x) := by rw [List.getElem?_map, hx]; rfl
    obtain ⟨g, c, e, hc, _, _⟩ := own_cell hls.1 hm
    injection e with e _ _
    exact ⟨g, e, World.block_lt_of_cell? _ _ hc, hc⟩
  have HCA := Lib.hid hcA
  clear hs hls O1 F1 hss hpn hcA
  go_wp2_with fail
  go_loopw [4, 5] (fun s4 s5 wr => ∃ i : Nat, i ≤ N ∧ s4 = .int .i64 ((numsTo L.all i).length : Nat) ∧ s5 = .int .i64 i ∧ Fresh w1 wr) (fun _ s5 _ => N - (intOf s5).toNat)
  case atStart => exact ⟨0, Nat.zero_le _, rfl, rfl, Only.refl _ _⟩
  case round =>
    obtain ⟨i, hi, rfl, rfl, hf⟩ := hrel
    obtain ⟨k, hk⟩ : ∃ k, k = (numsTo L.all i).length := ⟨_, rfl⟩
    rw [← hk]
    have HK := Lib.hid hk
    have hkp : k ≤ pn := by
      rw [hk, HPN.out, HSS.out]
      obtain ⟨r, hr⟩ := numsTo_mono L.all hi
      rw [hr]
      simp
    have hfw := HF1.out.trans' hf
    have hself := hfw.blk HSF.out (fun q => q)
    have c0 : wr.cell? ⟨q, 0, none⟩ = some (.pointer (some ⟨p, 0, none⟩)) := blk_cell hself rfl
    have c2 : wr.cell? ⟨q, 2, none⟩ = some (.slice A N C) := blk_cell hself rfl
    have hq2 := blk_lt hself
    have HSF2 := Lib.hid hself
    have HF := Lib.hid hf
    have HFW := Lib.hid hfw
    clear hk hself hf hfw
    by_cases hlt : i < N
    · obtain ⟨m, hm⟩ : ∃ m, L.all[i]? = some m := ⟨L.all[i]'(by rw [← HN.out]; exact hlt), List.getElem?_eq_getElem _⟩
      obtain ⟨g, B, D, rfl, hg, q0, q1, q2, q3, q4, _, hlg, hmi⟩ := (HL.out.only HFW.out (fun _ _ q => q)).at hm
      obtain ⟨num, hnum⟩ : ∃ y, y = m.number := ⟨_, rfl⟩
      obtain ⟨fl, hfl⟩ : ∃ y, y = m.fields.length := ⟨_, rfl⟩
      obtain ⟨md, hmd⟩ : ∃ y, y = m.depth := ⟨_, rfl⟩
      obtain ⟨mh, hmh⟩ : ∃ y, y = m.heap := ⟨_, rfl⟩
      obtain ⟨mt, hmt⟩ : ∃ y, y = m.there := ⟨_, rfl⟩
      rw [← hnum] at q0
      rw [← hfl] at q1
      rw [← hmd] at q2
      rw [← hmh] at q3
      rw [← hmt] at q4
      obtain ⟨_, _, hf8, _⟩ := HZ.out.num i m hm
      rw [← hfl] at hf8
      have HMV := Lib.hid (And.intro hnum (And.intro hfl (And.intro hmt (And.intro hm hmi))))
      clear hnum hfl hmd hmh hmt hm hmi hlg
      cases mt with
      | false =>
        go_wp2_with fail
        refine nameW ?_
        intro V hV
        obtain ⟨bc, hbce⟩ : ∃ b, b = wr.heap.size := ⟨_, rfl⟩
        have hfV : Fresh wr V := by
          rw [hV]
          exact alloc_fresh2 _ _ _
        have hbc : V.heap[wr.heap.size]? = some (.cells #[.int .i64 num, .slice (some ⟨B, 0, none⟩) fl D, .int .i64 md, .bool mh, .bool false] 80 (0, 0)) := by
          rw [hV]
          exact blk_alloc (new_blk _) _
        have hbp : V.heap[wr.heap.size + 1]? = some (.cells #[.int .i64 2, .int .i64 num] 32 (0, 0)) := by
          rw [hV]
          exact two_blk _ _ _
        clear hV
        rw [← hbce] at hbc hbp ⊢
        clear hbce
        replace c0 := (Fresh.cel hfV (p := ⟨_, _, none⟩) hq2).trans c0
        replace c2 := (Fresh.cel hfV (p := ⟨_, _, none⟩) hq2).trans c2
        replace hq2 := Nat.lt_of_lt_of_le hq2 hfV.size
        have b0 : V.cell? ⟨bc, 0, none⟩ = some (.int .i64 num) := blk_cell hbc rfl
        have b1 : V.cell? ⟨bc, 1, none⟩ = some (.slice (some ⟨B, 0, none⟩) fl D) := blk_cell hbc rfl
        have p0 : V.cell? ⟨bc + 1, 0, none⟩ = some (.int .i64 2) := blk_cell hbp rfl
        have p1 : V.cell? ⟨bc + 1, 1, none⟩ = some (.int .i64 num) := blk_cell hbp rfl
        have bl := blk_lt hbc
        have pl := blk_lt hbp
        have HMI := Lib.hid (HMV.out.2.2.2.2.only hfV fun _ _ q => q)
        have HV := Lib.hid (And.intro (HF.out.trans' hfV) (And.intro hbc hbp))
        clear hfV hbc hbp q0 q1 q2 q3 q4 hg
        have HLD := Lib.hid (fun W (f : Fresh V W) => load_tells HO1.out (HV.out.1.trans' f) (2, num) 0 (show M.err (2, num) 0 = 32 by rw [HMV.out.1]; exact HZ.out.gone HMV.out.2.2.2.1 HMV.out.2.2.1.symm) rfl)
        generalize M.load (2, num) 0 = x at HLD
        obtain ⟨x0, x1⟩ := x
        clear c2 b0 b1 bl hkp
        go_cut [8, 9] from 42 to 50 (fun s8 s9 wx => s9 = .int .i64 32 ∧ Fresh V wx)
        case first =>
          go_region_with (go_at_call 17; refine (HLD.out _ (by repeat (first | exact Only.refl _ _ | refine Only.drew ?_ | refine Only.alloc ?_ _))).mono ?_; rintro e w5 ⟨rfl, F5⟩; first | (have hb := F5.blk (g := V.heap.size) (o := .cells #[.int .i64 0, .int .i64 0] 32 (0, 0)) (by exact new_blk _) (fun q => q); have z0 : w5.cell? ⟨V.heap.size, 0, none⟩ = some (.int .i64 0) := blk_cell hb rfl; have z1 : w5.cell? ⟨V.heap.size, 1, none⟩ = some (.int .i64 0) := blk_cell hb rfl; have z2 := blk_frozen hb 0; have z3 := blk_frozen hb 1; have z4 := blk_lt hb; have HB5 := Lib.hid hb; clear hb) | skip)
          all_goals go_wp2_with fail
          all_goals go_meet
          all_goals have HF5 : Fresh V w5 := Only.trans' (by repeat (first | exact Only.refl _ _ | refine Only.drew ?_ | refine Only.alloc ?_ _)) F5
          all_goals exact ⟨rfl, (by repeat (first | exact HF5 | refine Only.drew ?_ | refine Only.alloc ?_ _ | refine Only.setCell ?_ (.inr (Nat.le_refl _)) _))⟩
        case rest =>
          obtain ⟨rfl, F5⟩ := hcut
          have HF5 := Lib.hid F5
          clear F5
          go_wp2_with fail
          go_roundw
          case rel =>
            refine ⟨i + 1, by omega, ?_, by go_num, HV.out.1.trans' HF5.out⟩
            rw [numsTo_succ HMV.out.2.2.2.1, ← HMV.out.2.2.1, HK.out]
            simp
          case measure => simp [intOf]; omega
      | true =>
        have hkl : ss[k]? = some num := by
          rw [HSS.out, HK.out, HMV.out.1]
          exact numsTo_at HMV.out.2.2.2.1 HMV.out.2.2.1.symm hlt
        obtain ⟨gl, rfl, hgl, hcl⟩ := HCA.out k num hkl
        have hkn : k < pn := by rw [HPN.out]; exact (List.getElem?_eq_some_iff.1 hkl).1
        have d1 : decide ((k : Int) ≥ pn) = false := by simp; omega
        have d2 : decide (pn ≤ k) = false := by simp; omega
        have HGL := Lib.hid (And.intro hgl hcl)
        clear hkl hgl hcl
        go_wp2_with fail
        refine nameW ?_
        intro V hV
        obtain ⟨bc, hbce⟩ : ∃ b, b = wr.heap.size := ⟨_, rfl⟩
        have hfV : Fresh wr V := by
          rw [hV]
          exact alloc_fresh2 _ _ _
        have hbc : V.heap[wr.heap.size]? = some (.cells #[.int .i64 num, .slice (some ⟨B, 0, none⟩) fl D, .int .i64 md, .bool mh, .bool true] 80 (0, 0)) := by
          rw [hV]
          exact blk_alloc (new_blk _) _
        have hbp : V.heap[wr.heap.size + 1]? = some (.cells #[.int .i64 2, .int .i64 num] 32 (0, 0)) := by
          rw [hV]
          exact two_blk _ _ _
        clear hV
        rw [← hbce] at hbc hbp ⊢
        clear hbce
        replace c0 := (Fresh.cel hfV (p := ⟨_, _, none⟩) hq2).trans c0
        replace c2 := (Fresh.cel hfV (p := ⟨_, _, none⟩) hq2).trans c2
        replace hq2 := Nat.lt_of_lt_of_le hq2 hfV.size
        have b0 : V.cell? ⟨bc, 0, none⟩ = some (.int .i64 num) := blk_cell hbc rfl
        have b1 : V.cell? ⟨bc, 1, none⟩ = some (.slice (some ⟨B, 0, none⟩) fl D) := blk_cell hbc rfl
        have p0 : V.cell? ⟨bc + 1, 0, none⟩ = some (.int .i64 2) := blk_cell hbp rfl
        have p1 : V.cell? ⟨bc + 1, 1, none⟩ = some (.int .i64 num) := blk_cell hbp rfl
        have bl := blk_lt hbc
        have pl := blk_lt hbp
        have HMI := Lib.hid (HMV.out.2.2.2.2.only hfV fun _ _ q => q)
        have HV := Lib.hid (And.intro (HF.out.trans' hfV) (And.intro hbc hbp))
        clear hfV hbc hbp q0 q1 q2 q3 q4 hg
        have cl : V.cell? ⟨gl, k, none⟩ = some (.int .i64 num) := (Fresh.cel HV.out.1 (p := ⟨gl, _, none⟩) HGL.out.1).trans HGL.out.2
        go_still (by kernel_rfl)
        go_wp2_with fail
        clear cl c0 c2 b0 b1 p0 p1 bl pl hq2 d1 d2
        refine nameW ?_
        intro V2 hV2
        have hf2 : Fresh V V2 := by
          rw [hV2]
          repeat (first | exact Only.refl _ _ | refine Only.drew ?_ | refine Only.alloc ?_ _)
        have HV2 := Lib.hid hf2
        clear hV2 hf2
        go_loopw [10] (fun s10 wi => ∃ f : Nat, f ≤ fl ∧ s10 = .int .i64 f ∧ Fresh V wi) (fun s10 _ => fl - (intOf s10).toNat)
        case atStart => exact ⟨0, Nat.zero_le _, rfl, HV2.out⟩
        case round =>
          obtain ⟨f, hf, rfl, hfi⟩ := hrel
          rename_i wi
          have hself := (HF1.out.trans' (HV.out.1.trans' hfi)).blk HSF.out (fun q => q)
          have hbc := hfi.blk HV.out.2.1 (fun q => q)
          have hbp := hfi.blk HV.out.2.2 (fun q => q)
          have c0 : wr.cell? ⟨q, 0, none⟩ = some (.pointer (some ⟨p, 0, none⟩)) := blk_cell hself rfl
          have hq2 := blk_lt hself
          have b1 : wr.cell? ⟨bc, 1, none⟩ = some (.slice (some ⟨B, 0, none⟩) fl D) := blk_cell hbc rfl
          have p0 : wr.cell? ⟨bc + 1, 0, none⟩ = some (.int .i64 2) := blk_cell hbp rfl
          have p1 : wr.cell? ⟨bc + 1, 1, none⟩ = some (.int .i64 num) := blk_cell hbp rfl
          have bl := blk_lt hbc
          have pl := blk_lt hbp
          have HFI := Lib.hid (And.intro hfi (And.intro hbc hbp))
          clear hself hbc hbp hfi
          by_cases hff : f < fl
          · obtain ⟨y, hy⟩ : ∃ y, m.fields[f]? = some y := ⟨m.fields[f]'(by rw [← HMV.out.2.1]; exact hff), List.getElem?_eq_getElem _⟩
            obtain ⟨e1, e2⟩ := HZ.out.field HMV.out.2.2.2.1 HMV.out.2.2.1.symm hy
            rw [← HMV.out.1] at e1 e2
            have HLD := Lib.hid (fun W (g : Fresh wr W) => load_tells HO1.out ((HV.out.1.trans' HFI.out.1).trans' g) (2, num) f e1 e2)
            obtain ⟨hBl, y0, y1, _⟩ := (HMI.out.only HFI.out.1 (fun _ _ q => q)).field hy
            obtain ⟨x0, x1⟩ := y
            have HY := Lib.hid (And.intro hBl (And.intro y0 y1))
            clear e1 e2 hy hBl y0 y1
            have d1 : decide ((f : Int) < fl) = true := by simp; omega
            have d2 : decide (f < fl) = true := by simp; omega
            go_wp2_with fail
            clear b1 bl d1 d2
            go_cut [11, 12] from 75 to 84 (fun s11 s12 wx => s12 = .int .i64 0 ∧ ∃ b5, s11 = .pointer (some ⟨b5, 0, none⟩) ∧ wx.heap[b5]? = some (.cells #[.int .i64 x0, .int .i64 x1] 32 (0, 0)) ∧ Fresh wr wx)
            case first =>
              go_region_with (go_at_call 17; refine (HLD.out _ (by repeat (first | exact Only.refl _ _ | refine Only.drew ?_ | refine Only.alloc ?_ _))).mono ?_; rintro e w5 ⟨rfl, F5⟩; first | (have hb := F5.blk (g := wr.heap.size) (o := .cells #[.int .i64 0, .int .i64 0] 32 (0, 0)) (by exact new_blk _) (fun q => q); have z0 : w5.cell? ⟨wr.heap.size, 0, none⟩ = some (.int .i64 0) := blk_cell hb rfl; have z1 : w5.cell? ⟨wr.heap.size, 1, none⟩ = some (.int .i64 0) := blk_cell hb rfl; have z2 := blk_frozen hb 0; have z3 := blk_frozen hb 1; have z4 := blk_lt hb; have HB5 := Lib.hid hb; clear hb) | skip)
              all_goals go_wp2_with fail
              all_goals go_meet
              all_goals have HF5 : Fresh wr w5 := Only.trans' (by repeat (first | exact Only.refl _ _ | refine Only.drew ?_ | refine Only.alloc ?_ _)) F5
              all_goals first | exact ⟨rfl, _, rfl, new_blk _, (by repeat (first | exact HF5 | refine Only.drew ?_ | refine Only.alloc ?_ _ | refine Only.setCell ?_ (.inr (Nat.le_refl _)) _))⟩ | exact ⟨rfl, _, rfl, blk_set (blk_set HB5.out 0 _) 1 _, (by repeat (first | exact HF5 | refine Only.drew ?_ | refine Only.alloc ?_ _ | refine Only.setCell ?_ (.inr (Nat.le_refl _)) _))⟩
            case rest =>
              obtain ⟨rfl, b5, rfl, hb5, F5⟩ := hcut
              have v0 := blk_cell (i := 0) (x := .int .i64 x0) hb5 rfl
              have v1 := blk_cell (i := 1) (x := .int .i64 x1) hb5 rfl
              have vl := blk_lt hb5
              have b1 := (Fresh.cel F5 (p := ⟨bc, 1, none⟩) (blk_lt HFI.out.2.1)).trans (blk_cell HFI.out.2.1 (i := 1) rfl)
              have y0 := (Fresh.cel F5 (p := ⟨B, f * 2, none⟩) HY.out.1).trans HY.out.2.1
              have y1 := (Fresh.cel F5 (p := ⟨B, f * 2 + 1, none⟩) HY.out.1).trans HY.out.2.2
              have yl := Nat.lt_of_lt_of_le HY.out.1 F5.size
              have bl := Nat.lt_of_lt_of_le (blk_lt HFI.out.2.1) F5.size
              have HF5 := Lib.hid F5
              clear hb5 F5 c0 p0 p1 pl hq2
              go_wp2_with fail
              go_still (by kernel_rfl)
              go_wp2_with fail
              go_roundw
              case rel => exact ⟨f + 1, by omega, by go_num, HFI.out.1.trans' (HF5.out.trans' (by repeat (first | exact Only.refl _ _ | refine Only.drew ?_ | refine Only.alloc ?_ _)))⟩
              case measure => simp [intOf]; omega
          · skip
            have HLD := Lib.hid (fun W (g : Fresh wr W) => load_tells HO1.out ((HV.out.1.trans' HFI.out.1).trans' g) (2, num) fl (show M.err (2, num) fl = 33 by rw [HMV.out.1, HMV.out.2.1]; exact HZ.out.beyond HMV.out.2.2.2.1 HMV.out.2.2.1.symm) rfl)
            generalize M.load (2, num) (fl : Int) = x at HLD
            obtain ⟨x0, x1⟩ := x
            have d1 : decide ((f : Int) < fl) = false := by simp; omega
            have d2 : decide (f < fl) = false := by simp; omega
            go_wp2_with fail
            go_cut [13, 14] from 96 to 107 (fun s13 s14 wx => s14 = .int .i64 33 ∧ Fresh wr wx)
            case first =>
              go_region_with (go_at_call 17; refine (HLD.out _ (by repeat (first | exact Only.refl _ _ | refine Only.drew ?_ | refine Only.alloc ?_ _))).mono ?_; rintro e w5 ⟨rfl, F5⟩; first | (have hb := F5.blk (g := wr.heap.size) (o := .cells #[.int .i64 0, .int .i64 0] 32 (0, 0)) (by exact new_blk _) (fun q => q); have z0 : w5.cell? ⟨wr.heap.size, 0, none⟩ = some (.int .i64 0) := blk_cell hb rfl; have z1 : w5.cell? ⟨wr.heap.size, 1, none⟩ = some (.int .i64 0) := blk_cell hb rfl; have z2 := blk_frozen hb 0; have z3 := blk_frozen hb 1; have z4 := blk_lt hb; have HB5 := Lib.hid hb; clear hb) | skip)
              all_goals go_wp2_with fail
              all_goals go_meet
              all_goals have HF5 : Fresh wr w5 := Only.trans' (by repeat (first | exact Only.refl _ _ | refine Only.drew ?_ | refine Only.alloc ?_ _)) F5
              all_goals exact ⟨rfl, (by repeat (first | exact HF5 | refine Only.drew ?_ | refine Only.alloc ?_ _ | refine Only.setCell ?_ (.inr (Nat.le_refl _)) _))⟩
            case rest =>
              obtain ⟨rfl, F5⟩ := hcut
              have HF5 := Lib.hid F5
              clear F5
              go_wp2_with fail
              go_roundw
              case rel =>
                refine ⟨i + 1, by omega, ?_, by go_num, (HV.out.1.trans' HFI.out.1).trans' HF5.out⟩
                rw [numsTo_succ HMV.out.2.2.2.1, ← HMV.out.2.2.1, HK.out]
                simp
              case measure => simp [intOf]; omega
    · go_wp2_with fail
      obtain rfl : i = N := by omega
      have hkn : k = pn := by rw [HK.out, HPN.out, HSS.out]
      subst hkn
      go_wp2_with fail
      go_ret
      refine ⟨?_, HFW.out⟩
      show Ending.returned (Value.bool ((k : Int) == k)) = Ending.returned (Value.bool true)
      simp
end Go.Proofs.Ytabfmoedbnpihaa
