/- A step towards the laws on the cells of a run: the ledger's act, a field. No conditions of its own beyond those that its theorems name. -/
import Derived.Test.YtabfmoedbnpihaaKAct2
namespace Go.Proofs.Ytabfmoedbnpihaa
open Go.RowKit Go.MapKept

theorem nameW {C : Code} {Q : Exit → Act → World → Prop} {a : Act} {W : World} (h : ∀ V, V = W → Code.wp Try.prog C Q a V) : Code.wp Try.prog C Q a W := h W rfl

set_option maxRecDepth 200000 in
set_option maxHeartbeats 2000000 in
theorem act_put {w0 w : World} {p q : Nat} {lab ll : Lab} {M : PM} {L : PL} (h : Shadow w0 w p q lab ll M L) (hz : Led M L) (hf : M.frames.length < 1048600) (hmd : M.made ≤ 1048576) (hfl : ∀ l ∈ M.frames, l.length < Lim) (n : Int) (heap : Bool) (f x : Int) :
    Calls Try.prog 21 #[.pointer (some ⟨q, 0, none⟩), .agg #[.int .i64 5, .int .i64 n, .bool heap, .int .i64 f, .int .i64 x]] w fun e w' => e = .returned (.bool true) ∧ Acted w0 w' p q M := by
  have hn : L.all.length ≤ 1048576 := by rw [← hz.made]; exact hmd
  have hfL : M.frames.length < Lim := by unfold Lim; omega
  have hmL : M.made < Lim := by unfold Lim; omega
  have HTH := Lib.hid (act_pre h.led hn)
  have H := Lib.hid h
  have HZ := Lib.hid hz
  have HLM := Lib.hid (And.intro hfL (And.intro hmL hfl))
  have HND := Lib.hid (And.intro hn (show L.depth ≤ 1048600 by rw [← hz.dep]; omega))
  obtain ⟨pn, hpn⟩ : ∃ k, k = (placesTo L.all L.all.length).length := ⟨_, rfl⟩
  have hpl : pn ≤ 1048576 := by rw [hpn]; have := placesTo_len L.all L.all.length; omega
  have HPN := Lib.hid hpn
  rw [← hpn] at HTH
  clear h hz hf hmd hfl hn hfL hmL hpn
  go_enter Try.func21, Try.ntmps21
  go_wp2_with fail
  refine (HTH.out _ (alloc_fresh _ _)).mono ?_
  rintro e w1 ⟨A1, C1, rfl, L1, F1⟩
  have HL1 := Lib.hid L1
  have hbx := F1.blk (new_blk _) (fun q => q)
  obtain ⟨bx, hbxe⟩ : ∃ b, b = w.heap.size := ⟨_, rfl⟩
  rw [← hbxe] at hbx ⊢
  have HBX := Lib.hid (And.intro hbxe hbx)
  have k0 : w1.cell? ⟨bx, 0, none⟩ = some (.int .i64 5) := blk_cell hbx rfl
  have k1 : w1.cell? ⟨bx, 1, none⟩ = some (.int .i64 n) := blk_cell hbx rfl
  have k2 : w1.cell? ⟨bx, 2, none⟩ = some (.bool heap) := blk_cell hbx rfl
  have k3 : w1.cell? ⟨bx, 3, none⟩ = some (.int .i64 f) := blk_cell hbx rfl
  have k4 : w1.cell? ⟨bx, 4, none⟩ = some (.int .i64 x) := blk_cell hbx rfl
  have kl := blk_lt hbx
  have HS := Lib.hid (H.out.keep ((alloc_fresh w _).trans' F1))
  clear L1 F1 hbx hbxe HTH H
  by_cases hp0 : pn = 0
  · subst hp0
    have d1 : decide ((0 : Nat) < 0) = false := rfl
    have d2 : decide (((0 : Nat) : Int) > 0) = false := rfl
    go_wp2_with fail
    go_ret
    exact ⟨rfl, lab, ll, M, L, HS.out, HZ.out, .inl rfl⟩
  have hp1 : 1 ≤ pn := by omega
  have d1 : decide (0 < pn) = true := by simp; omega
  have d2 : decide ((pn : Int) > 0) = true := by simp; omega
  obtain ⟨j, hj⟩ : ∃ j : Nat, n % (pn : Int) = j := ⟨(n % (pn : Int)).toNat, by rw [Int.toNat_of_nonneg (Int.emod_nonneg _ (by omega))]⟩
  have hjl : j < pn := by have := Int.emod_lt_of_pos n (show (0 : Int) < pn by omega); omega
  have HMOD := Lib.hid (fun W => (mod_any W n pn (by omega) (by omega)).mono (R' := fun e w' => e = .returned (.int .i64 (j : Nat)) ∧ w' = W) fun _ _ h => ⟨by rw [h.1, hj], h.2.symm⟩)
  obtain ⟨xc, hxc⟩ : ∃ y, (placesTo L.all L.all.length)[j]? = some y := ⟨(placesTo L.all L.all.length)[j]'(by rw [← HPN.out]; exact hjl), List.getElem?_eq_getElem _⟩
  obtain ⟨c, m, rfl, hcn, hm, hmt⟩ := placesTo_at hxc
  have hmc : ((placesTo L.all L.all.length).map (Value.int .i64))[j]? = some (.int .i64 (c : Nat)) := by rw [List.getElem?_map, hxc]; rfl
  obtain ⟨gl, cl, hsl, hgc, _, _⟩ := own_cell HL1.out.1 hmc
  injection hsl with hsl hln hsc
  clear hln
  subst hsl
  subst hsc
  have hglt := World.block_lt_of_cell? _ _ hgc
  obtain ⟨A, C, cs, hl⟩ := HS.out.led
  obtain ⟨N, hN⟩ : ∃ N, N = L.all.length := ⟨_, rfl⟩
  have hself := hl.self
  rw [← hN] at hself hcn
  have hN9 := HND.out.1
  rw [← hN] at hN9
  obtain ⟨g, B, D, rfl, hg, q0, q1, q2, q3, q4, qf, hlg, hmi⟩ := hl.at hm
  have c2 : w1.cell? ⟨q, 2, none⟩ = some (.slice (some ⟨g, 0, none⟩) N C) := blk_cell hself rfl
  have c0 : w1.cell? ⟨q, 0, none⟩ = some (.pointer (some ⟨p, 0, none⟩)) := blk_cell hself rfl
  have hq := blk_lt hself
  have hgq : g ≠ q := ll_ne hlg hl.lself (by simp)
  rw [hmt] at q4
  have HL := Lib.hid hl
  have HM := Lib.hid (And.intro hm (And.intro hmt (And.intro hmi hlg)))
  have HN := Lib.hid hN
  have HGQ := Lib.hid hgq
  obtain ⟨num, hnum⟩ : ∃ y, y = m.number := ⟨_, rfl⟩
  obtain ⟨fl, hfl2⟩ : ∃ y, y = m.fields.length := ⟨_, rfl⟩
  rw [← hnum] at q0
  rw [← hfl2] at q1
  have HNU := Lib.hid (And.intro hnum hfl2)
  obtain ⟨_, hf1, hf8, _⟩ := HZ.out.num c m hm
  rw [← hfl2] at hf1 hf8
  have hnumv := (HZ.out.num c m hm).1
  rw [← hnum] at hnumv
  have HNV := Lib.hid hnumv
  clear hj hxc hm hmt hmc hl hself hmi hlg hN hnum hfl2 hnumv hgq q2 q3
  have qf4 := qf (c * 5 + 4)
  have HQF := Lib.hid qf
  clear qf
  go_wp2_with fail
  refine (HMOD.out _).mono ?_
  rintro e w2 ⟨rfl, rfl⟩
  obtain ⟨fi, hfi⟩ : ∃ j : Nat, f % (fl : Int) = j := ⟨(f % (fl : Int)).toNat, by rw [Int.toNat_of_nonneg (Int.emod_nonneg _ (by omega))]⟩
  have hfl3 : fi < fl := by have := Int.emod_lt_of_pos f (show (0 : Int) < fl by omega); omega
  have HMF := Lib.hid (fun W => (mod_any W f fl (by omega) (by omega)).mono (R' := fun e w' => e = .returned (.int .i64 (fi : Nat)) ∧ w' = W) fun _ _ h => ⟨by rw [h.1, hfi], h.2.symm⟩)
  obtain ⟨xi, hxi⟩ : ∃ j : Nat, x % (N : Int) = j := ⟨(x % (N : Int)).toNat, by rw [Int.toNat_of_nonneg (Int.emod_nonneg _ (by omega))]⟩
  have hxl : xi < N := by have := Int.emod_lt_of_pos x (show (0 : Int) < N by omega); omega
  have HMX := Lib.hid (fun W => (mod_any W x N (by omega) (by omega)).mono (R' := fun e w' => e = .returned (.int .i64 (xi : Nat)) ∧ w' = W) fun _ _ h => ⟨by rw [h.1, hxi], h.2.symm⟩)
  clear hfi hxi
  go_wp2_with fail
  refine wp_region_still_lit (by kernel_rfl) (by kernel_rfl) ?_
  repeat still_step
  still_call (HMF.out _)
  repeat still_step
  refine wpStill_nil ?_
  have HW := Lib.hid (And.intro c0 (And.intro c2 (And.intro q0 (And.intro q1 (And.intro k4 (And.intro hq (And.intro hg kl)))))))
  cases heap with
  | false =>
    go_wp2_with fail
    refine nameW ?_
    intro V hV
    have hf : Fresh w2 V := by
      rw [hV]
      repeat (first | exact Only.refl _ _ | refine Only.drew ?_ | refine Only.alloc ?_ _)
    have hb : V.heap[w2.heap.size]? = some (.cells #[.int .i64 1, .int .i64 x] 32 (0, 0)) := by
      rw [hV]
      exact new_blk (w := w2) _
    clear hV c0 c2 q0 q1 k4 hq hg kl
    have c0 := (Fresh.cel hf (p := ⟨_, _, none⟩) HW.out.2.2.2.2.2.1).trans HW.out.1
    have c2 := (Fresh.cel hf (p := ⟨_, _, none⟩) HW.out.2.2.2.2.2.1).trans HW.out.2.1
    have q0 := (Fresh.cel hf (p := ⟨_, _, none⟩) HW.out.2.2.2.2.2.2.1).trans HW.out.2.2.1
    have q1 := (Fresh.cel hf (p := ⟨_, _, none⟩) HW.out.2.2.2.2.2.2.1).trans HW.out.2.2.2.1
    have k4 := (Fresh.cel hf (p := ⟨_, _, none⟩) HW.out.2.2.2.2.2.2.2).trans HW.out.2.2.2.2.1
    have hq := Nat.lt_of_lt_of_le HW.out.2.2.2.2.2.1 hf.size
    have hg := Nat.lt_of_lt_of_le HW.out.2.2.2.2.2.2.1 hf.size
    have kl := Nat.lt_of_lt_of_le HW.out.2.2.2.2.2.2.2 hf.size
    have v0 : V.cell? ⟨w2.heap.size, 0, none⟩ = some (.int .i64 1) := blk_cell hb rfl
    have v1 : V.cell? ⟨w2.heap.size, 1, none⟩ = some (.int .i64 x) := blk_cell hb rfl
    have vf0 := blk_frozen hb 0
    have vf1 := blk_frozen hb 1
    have vl := blk_lt hb
    have HV := Lib.hid (And.intro hf hb)
    clear hf hb
    obtain ⟨y, hy⟩ : ∃ y, m.fields[fi]? = some y := ⟨m.fields[fi]'(by rw [← HNU.out.2]; exact hfl3), List.getElem?_eq_getElem _⟩
    obtain ⟨hBl, y0, y1, yf⟩ := (HM.out.2.2.1.only HV.out.1 (fun _ _ q => q)).field hy
    have yf0 := yf (fi * 2)
    have yf1 := yf (fi * 2 + 1)
    have hbs : B < w2.heap.size := (HM.out.2.2.1.field hy).1
    clear hy yf
    refine wp_region_still_tail 11 (by kernel_rfl) (by kernel_rfl) ?_
    simp only [List.take_succ_cons, List.take_zero, List.drop_succ_cons, List.drop_zero]
    repeat still_step
    refine wpStill_nil ?_
    go_wp2_with fail
    refine nameW ?_
    intro Z hZ
    have hlp := (HL.out.only HV.out.1 (fun _ _ q => q)).put HM.out.1 (HM.out.2.2.1.only HV.out.1 (fun _ _ q => q)) (f := fi) (by rw [← HNU.out.2]; exact hfl3) (1, x)
    have hoB : Only V Z fun r => r = B := by
      rw [hZ]
      exact (((Only.refl V (fun r => r = B)).setCell (p := ⟨B, fi * 2, none⟩) (.inl rfl) _).setCell (p := ⟨B, fi * 2 + 1, none⟩) (.inl rfl) _).drew
    have hlz : LedIs Z q ll p (L.put c m fi (1, x)) (some ⟨g, 0, none⟩) C cs := by
      rw [hZ]
      exact hlp.only (S := fun _ => False) (Only.refl _ _).drew fun _ _ q => q
    have hBll := HM.out.2.2.1.2.2.2.2.2.2
    have hS2 : Shadow w0 Z p q lab ll M (L.put c m fi (1, x)) := (HS.out.keep HV.out.1).wrote (hoB.mono fun r _ e => by rw [e, hBll]; simp) ⟨_, _, _, hlz⟩
    clear c0 c2 q0 q1 k4 y0 y1 yf0 yf1 hlp hZ hBl
    have hself := hlz.self
    have hlN : (L.put c m fi (1, x)).all.length = N := by rw [HN.out]; simp [PL.put]
    rw [hlN] at hself
    have c0 : Z.cell? ⟨q, 0, none⟩ = some (.pointer (some ⟨p, 0, none⟩)) := blk_cell hself rfl
    have c2 : Z.cell? ⟨q, 2, none⟩ = some (.slice (some ⟨g, 0, none⟩) N C) := blk_cell hself rfl
    obtain ⟨g', B', D', e, hg2, q0, _⟩ := hlz.at (set_old HM.out.1)
    injection e with e
    injection e with e _ _
    subst e
    dsimp only at q0
    rw [← HNU.out.1] at q0
    replace v0 := (hoB.cell (p := ⟨w2.heap.size, 0, none⟩) vl (by dsimp only; omega)).trans v0
    replace v1 := (hoB.cell (p := ⟨w2.heap.size, 1, none⟩) vl (by dsimp only; omega)).trans v1
    replace vl := Nat.lt_of_lt_of_le vl hoB.size
    have hq2 := blk_lt hself
    have HS2 := Lib.hid hS2
    have hright : rightB M.made (1, x) = true := by simp [rightB]
    obtain ⟨e1, hled⟩ := HZ.out.put HM.out.1 HM.out.2.1 fi (by rw [← HNU.out.2]; exact hfl3) (1, x) hright
    rw [← HNU.out.1] at e1 hled
    have hst := Own.store (HS2.out.own.keep (Only.refl Z (fun _ => False)).drew) (2, num) (1, x) fi
    rw [e1] at hst
    have HST := Lib.hid hst
    have HLD := Lib.hid hled
    clear hS2 hself hlN hlz hoB hBll hright e1 hled hst hg hq vf0 vf1
    refine wp_region_still_tail 15 (by kernel_rfl) (by kernel_rfl) ?_
    simp only [List.take_succ_cons, List.take_zero, List.drop_succ_cons, List.drop_zero]
    repeat still_step
    refine wpStill_nil ?_
    go_wp2_with fail
    refine HST.out.mono ?_
    clear HST
    rintro e w3 ⟨rfl, lab3, O3, X3⟩
    have HS3 := Lib.hid ((HS2.out.keep (Only.refl Z (fun _ => False)).drew).mem O3 X3)
    clear O3 X3
    go_wp2_with fail
    go_ret
    exact ⟨rfl, lab3, ll, M.store (2, num) fi (1, x), L.put c m fi (1, x), HS3.out, HLD.out, .inr ⟨⟨6, 0, fi, false, (2, num), (1, x), []⟩, rfl⟩⟩
  | true =>
    have hww : IntKind.i64.wrap (1 + (xi : Int)) = 1 + (xi : Int) := IntWalk.i64_in _ (by omega)
    go_wp2_with fail
    refine nameW ?_
    intro U hV
    have hf : Fresh w2 U := by
      rw [hV]
      repeat (first | exact Only.refl _ _ | refine Only.drew ?_ | refine Only.alloc ?_ _)
    have hb : U.heap[w2.heap.size]? = some (.cells #[.int .i64 1, .int .i64 x] 32 (0, 0)) := by
      rw [hV]
      exact new_blk (w := w2) _
    clear hV c0 c2 q0 q1 k4 hq hg kl
    have c0 := (Fresh.cel hf (p := ⟨_, _, none⟩) HW.out.2.2.2.2.2.1).trans HW.out.1
    have c2 := (Fresh.cel hf (p := ⟨_, _, none⟩) HW.out.2.2.2.2.2.1).trans HW.out.2.1
    have q0 := (Fresh.cel hf (p := ⟨_, _, none⟩) HW.out.2.2.2.2.2.2.1).trans HW.out.2.2.1
    have q1 := (Fresh.cel hf (p := ⟨_, _, none⟩) HW.out.2.2.2.2.2.2.1).trans HW.out.2.2.2.1
    have k4 := (Fresh.cel hf (p := ⟨_, _, none⟩) HW.out.2.2.2.2.2.2.2).trans HW.out.2.2.2.2.1
    have hq := Nat.lt_of_lt_of_le HW.out.2.2.2.2.2.1 hf.size
    have hg := Nat.lt_of_lt_of_le HW.out.2.2.2.2.2.2.1 hf.size
    have kl := Nat.lt_of_lt_of_le HW.out.2.2.2.2.2.2.2 hf.size
    have v0 : U.cell? ⟨w2.heap.size, 0, none⟩ = some (.int .i64 1) := blk_cell hb rfl
    have v1 : U.cell? ⟨w2.heap.size, 1, none⟩ = some (.int .i64 x) := blk_cell hb rfl
    have vf0 := blk_frozen hb 0
    have vf1 := blk_frozen hb 1
    have vl := blk_lt hb
    have HU := Lib.hid (And.intro hf hb)
    clear hf hb
    refine wp_region_still_tail 10 (by kernel_rfl) (by kernel_rfl) ?_
    simp only [List.take_succ_cons, List.take_zero, List.drop_succ_cons, List.drop_zero]
    repeat still_step
    still_call (HMX.out _)
    repeat still_step
    refine wpStill_nil ?_
    go_wp2_with fail
    clear v0 v1 vf0 vf1 vl
    refine nameW ?_
    intro V hV
    have hf : Fresh w2 V := by
      rw [hV]
      exact ((HU.out.1.setCell (p := ⟨w2.heap.size, 0, none⟩) (.inr (Nat.le_refl _)) _).setCell (p := ⟨w2.heap.size, 1, none⟩) (.inr (Nat.le_refl _)) _).drew
    have hb : V.heap[w2.heap.size]? = some (.cells #[.int .i64 2, .int .i64 (1 + (xi : Int))] 32 (0, 0)) := by
      rw [hV]
      exact blk_set (blk_set HU.out.2 0 _) 1 _
    clear hV c0 c2 q0 q1 k4 hq hg kl
    have c0 := (Fresh.cel hf (p := ⟨_, _, none⟩) HW.out.2.2.2.2.2.1).trans HW.out.1
    have c2 := (Fresh.cel hf (p := ⟨_, _, none⟩) HW.out.2.2.2.2.2.1).trans HW.out.2.1
    have q0 := (Fresh.cel hf (p := ⟨_, _, none⟩) HW.out.2.2.2.2.2.2.1).trans HW.out.2.2.1
    have q1 := (Fresh.cel hf (p := ⟨_, _, none⟩) HW.out.2.2.2.2.2.2.1).trans HW.out.2.2.2.1
    have k4 := (Fresh.cel hf (p := ⟨_, _, none⟩) HW.out.2.2.2.2.2.2.2).trans HW.out.2.2.2.2.1
    have hq := Nat.lt_of_lt_of_le HW.out.2.2.2.2.2.1 hf.size
    have hg := Nat.lt_of_lt_of_le HW.out.2.2.2.2.2.2.1 hf.size
    have kl := Nat.lt_of_lt_of_le HW.out.2.2.2.2.2.2.2 hf.size
    have v0 : V.cell? ⟨w2.heap.size, 0, none⟩ = some (.int .i64 2) := blk_cell hb rfl
    have v1 : V.cell? ⟨w2.heap.size, 1, none⟩ = some (.int .i64 (1 + (xi : Int))) := blk_cell hb rfl
    have vf0 := blk_frozen hb 0
    have vf1 := blk_frozen hb 1
    have vl := blk_lt hb
    have HV := Lib.hid (And.intro hf hb)
    clear hf hb
    obtain ⟨y, hy⟩ : ∃ y, m.fields[fi]? = some y := ⟨m.fields[fi]'(by rw [← HNU.out.2]; exact hfl3), List.getElem?_eq_getElem _⟩
    obtain ⟨hBl, y0, y1, yf⟩ := (HM.out.2.2.1.only HV.out.1 (fun _ _ q => q)).field hy
    have yf0 := yf (fi * 2)
    have yf1 := yf (fi * 2 + 1)
    have hbs : B < w2.heap.size := (HM.out.2.2.1.field hy).1
    clear hy yf
    refine wp_region_still_tail 11 (by kernel_rfl) (by kernel_rfl) ?_
    simp only [List.take_succ_cons, List.take_zero, List.drop_succ_cons, List.drop_zero]
    repeat still_step
    refine wpStill_nil ?_
    go_wp2_with fail
    refine nameW ?_
    intro Z hZ
    have hlp := (HL.out.only HV.out.1 (fun _ _ q => q)).put HM.out.1 (HM.out.2.2.1.only HV.out.1 (fun _ _ q => q)) (f := fi) (by rw [← HNU.out.2]; exact hfl3) (2, (1 + (xi : Int)))
    have hoB : Only V Z fun r => r = B := by
      rw [hZ]
      exact (((Only.refl V (fun r => r = B)).setCell (p := ⟨B, fi * 2, none⟩) (.inl rfl) _).setCell (p := ⟨B, fi * 2 + 1, none⟩) (.inl rfl) _).drew
    have hlz : LedIs Z q ll p (L.put c m fi (2, (1 + (xi : Int)))) (some ⟨g, 0, none⟩) C cs := by
      rw [hZ]
      exact hlp.only (S := fun _ => False) (Only.refl _ _).drew fun _ _ q => q
    have hBll := HM.out.2.2.1.2.2.2.2.2.2
    have hS2 : Shadow w0 Z p q lab ll M (L.put c m fi (2, (1 + (xi : Int)))) := (HS.out.keep HV.out.1).wrote (hoB.mono fun r _ e => by rw [e, hBll]; simp) ⟨_, _, _, hlz⟩
    clear c0 c2 q0 q1 k4 y0 y1 yf0 yf1 hlp hZ hBl
    have hself := hlz.self
    have hlN : (L.put c m fi (2, (1 + (xi : Int)))).all.length = N := by rw [HN.out]; simp [PL.put]
    rw [hlN] at hself
    have c0 : Z.cell? ⟨q, 0, none⟩ = some (.pointer (some ⟨p, 0, none⟩)) := blk_cell hself rfl
    have c2 : Z.cell? ⟨q, 2, none⟩ = some (.slice (some ⟨g, 0, none⟩) N C) := blk_cell hself rfl
    obtain ⟨g', B', D', e, hg2, q0, _⟩ := hlz.at (set_old HM.out.1)
    injection e with e
    injection e with e _ _
    subst e
    dsimp only at q0
    rw [← HNU.out.1] at q0
    replace v0 := (hoB.cell (p := ⟨w2.heap.size, 0, none⟩) vl (by dsimp only; omega)).trans v0
    replace v1 := (hoB.cell (p := ⟨w2.heap.size, 1, none⟩) vl (by dsimp only; omega)).trans v1
    replace vl := Nat.lt_of_lt_of_le vl hoB.size
    have hq2 := blk_lt hself
    have HS2 := Lib.hid hS2
    have hright : rightB M.made (2, (1 + (xi : Int))) = true := by have h := HZ.out.made; rw [← HN.out] at h; simp [rightB, h]; omega
    obtain ⟨e1, hled⟩ := HZ.out.put HM.out.1 HM.out.2.1 fi (by rw [← HNU.out.2]; exact hfl3) (2, (1 + (xi : Int))) hright
    rw [← HNU.out.1] at e1 hled
    have hst := Own.store (HS2.out.own.keep (Only.refl Z (fun _ => False)).drew) (2, num) (2, (1 + (xi : Int))) fi
    rw [e1] at hst
    have HST := Lib.hid hst
    have HLD := Lib.hid hled
    clear hS2 hself hlN hlz hoB hBll hright e1 hled hst hg hq vf0 vf1
    refine wp_region_still_tail 15 (by kernel_rfl) (by kernel_rfl) ?_
    simp only [List.take_succ_cons, List.take_zero, List.drop_succ_cons, List.drop_zero]
    repeat still_step
    refine wpStill_nil ?_
    go_wp2_with fail
    refine HST.out.mono ?_
    clear HST
    rintro e w3 ⟨rfl, lab3, O3, X3⟩
    have HS3 := Lib.hid ((HS2.out.keep (Only.refl Z (fun _ => False)).drew).mem O3 X3)
    clear O3 X3
    go_wp2_with fail
    go_ret
    exact ⟨rfl, lab3, ll, M.store (2, num) fi (2, (1 + (xi : Int))), L.put c m fi (2, (1 + (xi : Int))), HS3.out, HLD.out, .inr ⟨⟨6, 0, fi, false, (2, num), (2, (1 + (xi : Int))), []⟩, rfl⟩⟩
end Go.Proofs.Ytabfmoedbnpihaa
