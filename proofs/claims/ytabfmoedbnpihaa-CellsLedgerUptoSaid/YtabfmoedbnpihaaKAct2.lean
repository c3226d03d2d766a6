/- A step towards the laws on the cells of a run: the ledger's act, Drop. No conditions of its own beyond those that its theorems name. -/
import Derived.Test.YtabfmoedbnpihaaKAct
namespace Go.Proofs.Ytabfmoedbnpihaa
open Go.RowKit Go.MapKept


set_option maxRecDepth 200000 in
set_option maxHeartbeats 2000000 in
theorem act_drop {w0 w : World} {p q : Nat} {lab ll : Lab} {M : PM} {L : PL} (h : Shadow w0 w p q lab ll M L) (hz : Led M L) (hf : M.frames.length < 1048600) (hmd : M.made ≤ 1048576) (hfl : ∀ l ∈ M.frames, l.length < Lim) (n : Int) (heap : Bool) (f x : Int) :
    Calls Try.prog 21 #[.pointer (some ⟨q, 0, none⟩), .agg #[.int .i64 4, .int .i64 n, .bool heap, .int .i64 f, .int .i64 x]] w fun e w' => e = .returned (.bool true) ∧ Acted w0 w' p q M := by
  have hn : L.all.length ≤ 1048576 := by rw [← hz.made]; exact hmd
  have hfL : M.frames.length < Lim := by unfold Lim; omega
  have hmL : M.made < Lim := by unfold Lim; omega
  have HTH := Lib.hid (act_pre h.led hn)
  have H := Lib.hid h
  have HZ := Lib.hid hz
  have HLM := Lib.hid (And.intro hfL (And.intro hmL hfl))
  have HND := Lib.hid (And.intro hn (show L.depth ≤ 1048600 by rw [← hz.dep]; omega))
  obtain ⟨pn, hpn⟩ : ∃ k, k = (placesTo L.all L.all.length).length := ⟨_, rfl⟩
  have hpl : pn ≤ 1048576 := by rw [hpn]; have := placesTo_len L.all L.all.length; omega
  have HPN := Lib.hid hpn
  rw [← hpn] at HTH
  clear h hz hf hmd hfl hn hfL hmL hpn
  go_enter Try.func21, Try.ntmps21
  go_wp2_with fail
  refine (HTH.out _ (alloc_fresh _ _)).mono ?_
  rintro e w1 ⟨A1, C1, rfl, L1, F1⟩
  have HL1 := Lib.hid L1
  have hbx := F1.blk (new_blk _) (fun q => q)
  obtain ⟨bx, hbxe⟩ : ∃ b, b = w.heap.size := ⟨_, rfl⟩
  rw [← hbxe] at hbx ⊢
  have HBX := Lib.hid (And.intro hbxe hbx)
  have k0 : w1.cell? ⟨bx, 0, none⟩ = some (.int .i64 4) := blk_cell hbx rfl
  have k1 : w1.cell? ⟨bx, 1, none⟩ = some (.int .i64 n) := blk_cell hbx rfl
  have k2 : w1.cell? ⟨bx, 2, none⟩ = some (.bool heap) := blk_cell hbx rfl
  have k3 : w1.cell? ⟨bx, 3, none⟩ = some (.int .i64 f) := blk_cell hbx rfl
  have k4 : w1.cell? ⟨bx, 4, none⟩ = some (.int .i64 x) := blk_cell hbx rfl
  have kl := blk_lt hbx
  have HS := Lib.hid (H.out.keep ((alloc_fresh w _).trans' F1))
  clear L1 F1 hbx hbxe HTH H
  by_cases hp0 : pn = 0
  · subst hp0
    have d1 : decide ((0 : Nat) < 0) = false := rfl
    have d2 : decide (((0 : Nat) : Int) > 0) = false := rfl
    go_wp2_with fail
    go_ret
    exact ⟨rfl, lab, ll, M, L, HS.out, HZ.out, .inl rfl⟩
  have hp1 : 1 ≤ pn := by omega
  have d1 : decide (0 < pn) = true := by simp; omega
  have d2 : decide ((pn : Int) > 0) = true := by simp; omega
  obtain ⟨j, hj⟩ : ∃ j : Nat, n % (pn : Int) = j := ⟨(n % (pn : Int)).toNat, by rw [Int.toNat_of_nonneg (Int.emod_nonneg _ (by omega))]⟩
  have hjl : j < pn := by have := Int.emod_lt_of_pos n (show (0 : Int) < pn by omega); omega
  have HMOD := Lib.hid (fun W => (mod_any W n pn (by omega) (by omega)).mono (R' := fun e w' => e = .returned (.int .i64 (j : Nat)) ∧ w' = W) fun _ _ h => ⟨by rw [h.1, hj], h.2.symm⟩)
  obtain ⟨xc, hxc⟩ : ∃ y, (placesTo L.all L.all.length)[j]? = some y := ⟨(placesTo L.all L.all.length)[j]'(by rw [← HPN.out]; exact hjl), List.getElem?_eq_getElem _⟩
  obtain ⟨c, m, rfl, hcn, hm, hmt⟩ := placesTo_at hxc
  have hmc : ((placesTo L.all L.all.length).map (Value.int .i64))[j]? = some (.int .i64 (c : Nat)) := by rw [List.getElem?_map, hxc]; rfl
  obtain ⟨gl, cl, hsl, hgc, _, _⟩ := own_cell HL1.out.1 hmc
  injection hsl with hsl hln hsc
  clear hln
  subst hsl
  subst hsc
  have hglt := World.block_lt_of_cell? _ _ hgc
  obtain ⟨A, C, cs, hl⟩ := HS.out.led
  obtain ⟨N, hN⟩ : ∃ N, N = L.all.length := ⟨_, rfl⟩
  have hself := hl.self
  rw [← hN] at hself hcn
  have hN9 := HND.out.1
  rw [← hN] at hN9
  obtain ⟨g, B, D, rfl, hg, q0, q1, q2, q3, q4, qf, hlg, hmi⟩ := hl.at hm
  have c2 : w1.cell? ⟨q, 2, none⟩ = some (.slice (some ⟨g, 0, none⟩) N C) := blk_cell hself rfl
  have c0 : w1.cell? ⟨q, 0, none⟩ = some (.pointer (some ⟨p, 0, none⟩)) := blk_cell hself rfl
  have hq := blk_lt hself
  have hgq : g ≠ q := ll_ne hlg hl.lself (by simp)
  rw [hmt] at q4
  have HL := Lib.hid hl
  have HM := Lib.hid (And.intro hm (And.intro hmt (And.intro hmi hlg)))
  have HN := Lib.hid hN
  have HGQ := Lib.hid hgq
  obtain ⟨num, hnum⟩ : ∃ y, y = m.number := ⟨_, rfl⟩
  obtain ⟨fl, hfl2⟩ : ∃ y, y = m.fields.length := ⟨_, rfl⟩
  rw [← hnum] at q0
  rw [← hfl2] at q1
  have HNU := Lib.hid (And.intro hnum hfl2)
  obtain ⟨_, hf1, hf8, _⟩ := HZ.out.num c m hm
  rw [← hfl2] at hf1 hf8
  have hnumv := (HZ.out.num c m hm).1
  rw [← hnum] at hnumv
  have HNV := Lib.hid hnumv
  clear hj hxc hm hmt hmc hl hself hmi hlg hN hnum hfl2 hnumv hgq q2 q3
  have qf4 := qf (c * 5 + 4)
  have HQF := Lib.hid qf
  clear qf
  go_wp2_with fail
  refine (HMOD.out _).mono ?_
  rintro e w2 ⟨rfl, rfl⟩
  go_wp2_with fail
  have hw := HL.out.word HM.out.1 rfl 4 (.bool false) (m' := { m with there := false }) (.inr ⟨rfl, rfl, rfl⟩)
  obtain ⟨W, hW⟩ : ∃ W, W = w2.setCell ⟨g, c * 5 + 4, none⟩ (.bool false) := ⟨_, rfl⟩
  have hS2 : Shadow w0 W p q lab ll M (L.drop c m) := by
    rw [hW]
    exact HS.out.wrote ((Only.refl w2 (fun b => ll b ≠ none)).setCell (p := ⟨g, c * 5 + 4, none⟩) (.inl (by rw [HM.out.2.2.2]; simp)) _) ⟨_, _, _, hw⟩
  rw [← hW] at hw ⊢
  have hself := hw.self
  simp only [List.length_set] at hself
  rw [← HN.out] at hself
  have c0 : W.cell? ⟨q, 0, none⟩ = some (.pointer (some ⟨p, 0, none⟩)) := blk_cell hself rfl
  have c2 : W.cell? ⟨q, 2, none⟩ = some (.slice (some ⟨g, 0, none⟩) N C) := blk_cell hself rfl
  obtain ⟨g', B', D', e, hg2, q0', _⟩ := hw.at (set_old HM.out.1)
  injection e with e
  injection e with e _ _
  subst e
  dsimp only at q0'
  rw [← HNU.out.1] at q0'
  have hq2 := blk_lt hself
  have HS2 := Lib.hid hS2
  clear hw hW hself hS2 q0 q1 q4 qf4 hg hq k0 k1 k2 k3 k4 kl hgc hglt
  obtain ⟨e1, hled⟩ := HZ.out.drop HM.out.1 HM.out.2.1
  rw [← HNU.out.1] at e1 hled
  have hdrop : ∀ (V : World) (B : Nat), Fresh W V → V.heap[B]? = some (.cells #[.int .i64 num] 3 (0, 0)) → Calls Try.prog 38 #[.pointer (some ⟨p, 0, none⟩), .slice (some ⟨B, 0, none⟩) 1 1] V fun e w2 => e = .returned (.int .i64 0) ∧ ∃ lab2, Shadow w0 w2 p q lab2 ll (M.drop [num]) (L.drop c m) := fun V B f hb => by
    have h := Own.drop (HS2.out.own.keep f) (some ⟨B, 0, none⟩) 1 1 [num] ⟨rfl, fun i y hy => by
      cases i with
      | zero =>
        simp at hy
        subst hy
        exact ⟨B, 0, rfl, blk_lt hb, blk_cell hb rfl⟩
      | succ i => simp at hy⟩ (by decide) HLM.out.2.1
    rw [e1] at h
    refine h.mono ?_
    rintro e w3 ⟨rfl, lab3, O3, X3⟩
    exact ⟨rfl, lab3, (HS2.out.keep f).mem O3 X3⟩
  have HD := Lib.hid hdrop
  have HLD := Lib.hid hled
  clear hdrop e1 hled
  go_region_with (go_at_call 38; refine (HD.out _ W.heap.size (by repeat (first | exact Only.refl _ _ | refine Only.drew ?_ | refine Only.alloc ?_ _)) (by exact new_blk _)).mono ?_; rintro e w3 ⟨rfl, lab3, S3⟩; have HS3 := Lib.hid S3; clear S3)
  all_goals go_wp2_with fail
  all_goals go_ret
  all_goals exact ⟨rfl, lab3, ll, M.drop [num], L.drop c m, HS3.out, HLD.out, .inr ⟨⟨10, 0, 0, false, (0, 0), (0, 0), [num]⟩, rfl⟩⟩
end Go.Proofs.Ytabfmoedbnpihaa
