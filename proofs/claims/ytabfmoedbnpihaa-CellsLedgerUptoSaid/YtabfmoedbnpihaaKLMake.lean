/- A step towards the laws on the cells of a run: the ledger's make. No conditions of its own beyond those that its theorems name. -/
import Derived.Test.YtabfmoedbnpihaaKThere
namespace Go.Proofs.Ytabfmoedbnpihaa
open Go.RowKit Go.MapKept

theorem infoMade : (Try.prog.info? 80).map (fun i => (i.zero, i.size, i.bytes)) = some (some (.agg #[.int .i64 0, .slice none 0 0, .int .i64 0, .bool false, .bool false]), 5, 48) := by kernel_rfl
theorem infoVal : (Try.prog.info? 32).map (fun i => (i.zero, i.size, i.bytes)) = some (some (.agg #[.int .i64 0, .int .i64 0]), 2, 16) := by kernel_rfl
theorem info_partsN {P : Program} {e : TypeId} {z : Value} {s b : Nat} (h : (P.info? e).map (fun i => (i.zero, i.size, i.bytes)) = some (some z, s, b)) : ∃ i, P.info? e = some i ∧ i.zero = some z ∧ i.size = s ∧ i.bytes = b := by
  cases hi : P.info? e with
  | none => rw [hi] at h; cases h
  | some i =>
    rw [hi] at h
    simp at h
    exact ⟨i, rfl, h.1, h.2.1, h.2.2⟩

set_option maxRecDepth 100000 in
set_option maxHeartbeats 1000000 in
theorem make_none_led {w0 w : World} {p q : Nat} {lab ll : Lab} {M : PM} {L : PL} (h : Shadow w0 w p q lab ll M L) (hz : Led M L) (hf : M.frames.length < Lim) (hmd : M.made < Lim) (hfl : ∀ l ∈ M.frames, l.length < Lim) (h0 : L.depth = 0) (n : Int) (heap : Bool) (hn1 : 1 ≤ n) (hn8 : n ≤ 8) :
    Calls Try.prog 37 #[.pointer (some ⟨q, 0, none⟩), .int .i64 n, .bool heap] w fun e w' => e = .returned (.bool true) ∧ ∃ lab2, Shadow w0 w' p q lab2 ll M L := by
  obtain ⟨A, C, cs, hl⟩ := h.led
  have hc := Own.make h.own n heap hf hmd hfl
  obtain ⟨e1, e2, e3⟩ := hz.makeNone h0 n heap hn1 hn8
  rw [e1, e2, e3] at hc
  have HC := Lib.hid hc
  have H := Lib.hid h
  have hself := hl.self
  rw [h0] at hself
  have c0 : w.cell? ⟨q, 0, none⟩ = some (.pointer (some ⟨p, 0, none⟩)) := blk_cell hself rfl
  have hq := blk_lt hself
  have H0 := Lib.hid h0
  clear h hz hf hfl hl hc hself h0 e1 e2 e3 hmd
  go_enter Try.func37, Try.ntmps37
  go_wp2_with fail
  refine HC.out.mono ?_
  clear HC c0
  rintro e w2 ⟨rfl, lab2, O2, X2⟩
  have hS := H.out.mem O2 X2
  obtain ⟨A, C, cs, hl⟩ := hS.led
  have HS := Lib.hid hS
  have hself := hl.self
  rw [H0.out] at hself
  have c1 : w2.cell? ⟨q, 1, none⟩ = some (.int .i64 0) := blk_cell hself rfl
  have hq2 := blk_lt hself
  clear O2 X2 H hS hself hl hq
  go_wp2_with fail
  go_ret
  exact ⟨rfl, lab2, HS.out⟩

theorem Shadow.grown {w0 w2 wr w3 : World} {p q : Nat} {lab ll : Lab} {M : PM} {L : PL} {A A1 A3 : Option Addr} {C C1 C3 i N : Nat} {cs : List Value} {m : PMade} (h : Shadow w0 w2 p q lab ll M L) (hl : LedIs w2 q ll p L A C cs) (f : Fresh w2 wr) (o : Obj)
    (hrow : wr.ownsRow 0 32 2 (.slice A1 i C1) i (flat m.fields)) (hi : i = m.fields.length) (h1 : 1 ≤ i) (hA1 : ∀ g, A1.map Addr.block = some g → w2.heap.size < g)
    (hown : w3.ownsRow 0 80 5 (.slice A3 (N + 1) C3) (N + 1) (cs ++ [.int .i64 m.number, .slice A1 i C1, .int .i64 m.depth, .bool m.heap, .bool m.there])) (hN : N = L.all.length)
    (hg : (wr.alloc o).drew.grownBy w3 (Value.slice A N C).ownBlock) (hat : A3.map Addr.block = (Value.slice A N C).ownBlock ∨ A3.map Addr.block = some (wr.alloc o).drew.heap.size) :
    ∃ ll2, Shadow w0 (w3.setCell ⟨q, 2, none⟩ (.slice A3 (N + 1) C3)) p q lab ll2 M ⟨L.depth, L.all ++ [m]⟩ := by
  subst hN
  subst hi
  rw [own_map] at hg hat
  have f2 : Fresh wr (wr.alloc o).drew := (alloc_fresh wr o).drew
  have fa : Fresh w2 (wr.alloc o).drew := f.trans' f2
  have hla := hl.only fa fun _ _ q => q
  have hr2 := f2.row hrow fun _ _ q => q
  have hA : ∃ B, A1 = some ⟨B, 0, none⟩ := by
    rcases hr2.2 with ⟨_, e⟩ | ⟨g, cap, cur, e, _⟩
    · omega
    · injection e with e _ _
      exact ⟨g, e⟩
  obtain ⟨B, rfl⟩ := hA
  have hBw := hA1 B rfl
  have hB : ll B = none := Decidable.byContradiction fun k => by
    have := hl.old B k
    omega
  obtain ⟨ll2, g1, g2⟩ := hla.grow hown hg (hat.imp id fun e => ⟨_, Nat.le_refl _, e⟩) hB hr2
  have hs := h.keep fa
  have ho : Only (wr.alloc o).drew (w3.setCell ⟨q, 2, none⟩ (.slice A3 (L.all.length + 1) C3)) fun b => ll b ≠ none :=
    (Only.of_grown (S := fun b => ll b ≠ none) hg fun g e => by rw [hl.lrow g e]; simp).setCell (p := ⟨q, 2, none⟩) (.inl (by rw [hl.lself]; simp)) _
  have hs2 := hs.own.fresh.size
  have hs3 := fa.size
  have hs4 := h.own.size
  refine ⟨ll2, ⟨hs.own.mem.only ho fun b hb e => hb (h.new b e).2, hs.own.new, hs.own.fresh.trans ho fun b e => .inr (h.new b e).1⟩, ⟨_, _, _, g1⟩, fun b hb => ?_⟩
  rcases g2 b hb with k | k | k
  · exact h.new b k
  · subst k
    exact ⟨by omega, Decidable.byContradiction fun e => by have := h.own.old b e; omega⟩
  · exact ⟨by omega, Decidable.byContradiction fun e => by have := h.own.old b e; omega⟩
theorem flat_zero (i : Nat) : flat (List.replicate i (0, 0)) ++ [.int .i64 0, .int .i64 0] = flat (List.replicate (i + 1) (0, 0)) := by
  rw [flat_replicate, flat_replicate, show 2 * (i + 1) = 2 * i + 1 + 1 by omega, List.replicate_succ', List.replicate_succ', List.append_assoc]
  rfl

set_option maxRecDepth 200000 in
set_option maxHeartbeats 2000000 in
theorem make_led {w0 w : World} {p q : Nat} {lab ll : Lab} {M : PM} {L : PL} (h : Shadow w0 w p q lab ll M L) (hz : Led M L) (hf : M.frames.length < Lim) (hmd : M.made < Lim) (hfl : ∀ l ∈ M.frames, l.length < Lim) (hn : L.all.length ≤ 1048576) (h0 : L.depth ≠ 0) (n : Int) (heap : Bool) (hn1 : 1 ≤ n) (hn8 : n ≤ 8) :
    Calls Try.prog 37 #[.pointer (some ⟨q, 0, none⟩), .int .i64 n, .bool heap] w fun e w' => e = .returned (.bool true) ∧ ∃ lab2 ll2, Shadow w0 w' p q lab2 ll2 (M.make n heap) (L.make n heap) := by
  obtain ⟨A, C, cs, hl⟩ := h.led
  have hc := Own.make h.own n heap hf hmd hfl
  obtain ⟨e1, e2, _⟩ := hz.make h0 n heap hn1 hn8
  rw [e1, e2] at hc
  have HC := Lib.hid hc
  have H := Lib.hid h
  have hself := hl.self
  have c0 : w.cell? ⟨q, 0, none⟩ = some (.pointer (some ⟨p, 0, none⟩)) := blk_cell hself rfl
  have hq := blk_lt hself
  obtain ⟨d, hdd⟩ : ∃ d, d = L.depth := ⟨_, rfl⟩
  obtain ⟨N, hnn⟩ : ∃ n, n = L.all.length := ⟨_, rfl⟩
  obtain ⟨M2, hM2⟩ : ∃ x, x = M.make n heap := ⟨_, rfl⟩
  have hLm : L.make n heap = ⟨d, L.all ++ [⟨(N : Int) + 1, List.replicate n.toNat (0, 0), d, heap, true⟩]⟩ := by
    unfold PL.make
    rw [if_neg h0, hdd, hnn]
  rw [hLm]
  have HLM := Lib.hid hLm
  rw [← hnn] at hn HC
  rw [← hdd] at h0
  rw [← hM2] at HC ⊢
  have HDN := Lib.hid (And.intro hdd hnn)
  have d0 : decide (d = 0) = false := by simp [h0]
  have d0b : ((d : Int) == 0) = false := by simp; omega
  clear h hz hf hfl hl hc hself hdd hnn h0 e1 e2 hmd hM2 hLm
  obtain ⟨iv, hin, hz0', hz1', hz2'⟩ := info_partsN infoVal
  have HIN := Lib.hid (And.intro hin (And.intro hz0' (And.intro hz1' hz2')))
  obtain ⟨im, hin, hz0', hz1', hz2'⟩ := info_partsN infoMade
  have HIM := Lib.hid (And.intro hin (And.intro hz0' (And.intro hz1' hz2')))
  clear hin hz0' hz1' hz2'
  go_enter Try.func37, Try.ntmps37
  go_wp2_with fail
  refine HC.out.mono ?_
  clear HC c0
  rintro e w2 ⟨rfl, lab2, O2, X2⟩
  have hS := H.out.mem O2 X2
  obtain ⟨A, C, cs, hl⟩ := hS.led
  have HS := Lib.hid hS
  have hself := hl.self
  rw [← HDN.out.1, ← HDN.out.2] at hself
  have HSF := Lib.hid hself
  have c1 : w2.cell? ⟨q, 1, none⟩ = some (.int .i64 d) := blk_cell hself rfl
  have hq2 := blk_lt hself
  have HL2 := Lib.hid hl
  clear O2 X2 H hS hself hl hq
  go_wp2_with fail
  clear c1
  obtain ⟨b, hb⟩ : ∃ b, b = w2.heap.size := ⟨_, rfl⟩
  rw [← hb]
  have HB := Lib.hid hb
  clear hb
  go_loopw [10] (fun s10 wr => ∃ (i : Nat) (A1 : Option Addr) (C1 : Nat), (i : Int) ≤ n ∧ s10 = .int .i64 i ∧ Fresh w2 wr ∧ wr.heap[b]? = some (.cells #[.int .i64 ((N : Int) + 1), .slice A1 i C1, .int .i64 d, .bool heap, .bool true] 80 (0, 0)) ∧
    wr.ownsRow 0 32 2 (.slice A1 i C1) i (flat (List.replicate i (0, 0))) ∧ ∀ g, A1.map Addr.block = some g → b < g) (fun s10 _ => n.toNat - (intOf s10).toNat)
  case atStart =>
    refine ⟨0, none, 0, by omega, rfl, alloc_fresh _ _, by rw [HB.out]; exact new_blk _, World.ownsRow_nil _ _ _ _, fun g hg => by simp at hg⟩
  case round =>
    obtain ⟨i, A1, C1, hi, rfl, hf, hblk, hrow, hg⟩ := hrel
    have HF := Lib.hid hf
    have HK := Lib.hid hblk
    have HR := Lib.hid (And.intro hrow hg)
    have k1 : wr.cell? ⟨b, 1, none⟩ = some (.slice A1 i C1) := blk_cell hblk rfl
    have kf := blk_frozen hblk 1
    have hbw := blk_lt hblk
    have hi8 : i ≤ 8 := by omega
    clear hf hblk hrow hg
    by_cases hlt : (i : Int) < n
    · go_wp2_with (at_builtin; go_must (refine wpl_app _ rfl _ _ 22 rfl 0 32 iv (.agg #[.int .i64 0, .int .i64 0]) 2 16 Try.underlying22 HIN.out.1 HIN.out.2.1 HIN.out.2.2.1 HIN.out.2.2.2 rfl (by decide) (.slice A1 i C1) _ _ rfl (HR.out.1.alloc _) wr.heap.size 1 1 [.int .i64 0, .int .i64 0] 32 (0, 0) rfl (new_blk _) rfl (by simp [Value.oneCell']) (by unfold maxLen; omega) (by omega) (Nat.zero_le _) ?_); intro A4 C4 w4 hown hgrow hat; have HW := Lib.hid (And.intro hown (And.intro hgrow hat)); have hb4 := blk_grown (blk_alloc HK.out _) hgrow (fun e => by rw [own_map] at e; have := HR.out.2 b e.symm; omega); have j1 : w4.cell? ⟨b, 1, none⟩ = some (.slice A1 i C1) := blk_cell hb4 rfl; have jf := blk_frozen hb4 1; have HB4 := Lib.hid hb4; clear hown hgrow hat hb4)
      go_roundw
      case rel =>
        have hbs := HB.out
        have hA4 : ∀ g, A4.map Addr.block = some g → b < g := fun g hg => by
          rcases HW.out.2.2 with e | e
          · rw [own_map] at e
            exact HR.out.2 g (by rw [← e, hg])
          · rw [hg] at e
            injection e with e
            simp at e
            omega
        refine ⟨i + 1, A4, C4, by omega, by go_num, ?_, blk_set HB4.out 1 _, ?_, hA4⟩
        · exact (((HF.out.alloc _).grown HW.out.2.1 fun g hg => .inr (by rw [own_map] at hg; have := HR.out.2 g hg; omega))).setCell (.inr (by dsimp only; omega)) _
        · have h := own_far HW.out.1 (a := ⟨b, 1, none⟩) (by rw [own_map]; intro e; have := hA4 b e; omega) (.slice A4 (i + 1) C4)
          rw [flat_zero] at h
          exact h
      case measure => simp [intOf]; omega
    · have hself := (HF.out.blk HSF.out (fun q => q))
      have c2 : wr.cell? ⟨q, 2, none⟩ = some (.slice A N C) := blk_cell hself rfl
      have fq := blk_frozen hself 2
      have hq3 := blk_lt hself
      have b0 : wr.cell? ⟨b, 0, none⟩ = some (.int .i64 ((N : Int) + 1)) := blk_cell HK.out rfl
      have b2 : wr.cell? ⟨b, 2, none⟩ = some (.int .i64 d) := blk_cell HK.out rfl
      have b3 : wr.cell? ⟨b, 3, none⟩ = some (.bool heap) := blk_cell HK.out rfl
      have b4 : wr.cell? ⟨b, 4, none⟩ = some (.bool true) := blk_cell HK.out rfl
      have HSF3 := Lib.hid hself
      clear hself
      have hrw : wr.ownsRow 0 80 5 (.slice A N C) N cs := by
        have h := HF.out.row HL2.out.row fun _ _ q => q
        rw [← HDN.out.2] at h
        exact h
      have HRW := Lib.hid hrw
      have hqA : ∀ g, (Value.slice A N C).ownBlock = some g → g ≠ q := fun g hg => by
        rw [own_map] at hg
        exact ll_ne (HL2.out.lrow g hg) HL2.out.lself (by simp)
      have HQA := Lib.hid hqA
      clear hrw hqA
      go_upto_region 9 with fail
      go_region_law
        ((refine step_app _ (by rfl) _ _ _ (by rfl) 0 80 im (.agg #[.int .i64 0, .slice none 0 0, .int .i64 0, .bool false, .bool false]) 5 48 Try.underlying44 HIM.out.1 HIM.out.2.1 HIM.out.2.2.1 HIM.out.2.2.2 rfl (by omega) (.slice A N C) N cs (by rfl) ((HRW.out.alloc _).drew) wr.heap.size 1 1 [.int .i64 ((N : Int) + 1), .slice A1 i C1, .int .i64 d, .bool heap, .bool true] 80 (0, 0) (by rfl) (new_blk _) (by rfl) (by simp [Value.oneCell']) (by unfold maxLen; omega) (by omega) (Nat.zero_le _) ?_; intro A' C' w3 hown hgrow hat; have hs3 := blk_grown (w := (wr.alloc (.cells #[.int .i64 ((N : Int) + 1), .slice A1 i C1, .int .i64 d, .bool heap, .bool true] 80)).drew) (blk_alloc HSF3.out _) hgrow (fun e => HQA.out q e.symm rfl); have k1 : w3.cell? ⟨q, 2, none⟩ = some (.slice A N C) := blk_cell hs3 rfl; have k2 := blk_frozen hs3 2; have k3 := blk_lt hs3; have HW := Lib.hid (And.intro hown (And.intro hgrow (And.intro hat hs3))); clear hown hgrow hat hs3))
      all_goals
        go_wp2_with fail
        go_ret
        have hin : i = n.toNat := by omega
        have hbs := HB.out
        obtain ⟨ll2, hfin⟩ := HS.out.grown (m := ⟨(N : Int) + 1, List.replicate n.toNat (0, 0), d, heap, true⟩) HL2.out HF.out _ (by rw [← hin]; exact HR.out.1) (by simp [hin]) (by omega) (fun g hg => by have := HR.out.2 g hg; omega) HW.out.1 HDN.out.2 HW.out.2.1 HW.out.2.2.1
        rw [← HDN.out.1] at hfin
        exact ⟨rfl, lab2, ll2, hfin⟩
end Go.Proofs.Ytabfmoedbnpihaa
