/- A step towards the laws on the cells of a run: the ledger's act, kind by kind. No conditions of its own beyond those that its theorems name. -/
import Derived.Test.YtabfmoedbnpihaaKLMake
namespace Go.Proofs.Ytabfmoedbnpihaa
open Go.RowKit Go.MapKept

/-- what is so behind a step of the ledger: each is the other's shadow again, and the memory made at most one step -/
def Acted (w0 w' : World) (p q : Nat) (M : PM) : Prop := ∃ (lab2 ll2 : Lab) (M2 : PM) (L2 : PL), Shadow w0 w' p q lab2 ll2 M2 L2 ∧ Led M2 L2 ∧ (M2 = M ∨ ∃ o : POp, M2 = M.oneM o)
theorem act_pre {w : World} {p q : Nat} {ll : Lab} {L : PL} (h : LedAt w q ll p L) (hn : L.all.length ≤ 1048576) (W : World) (f : Fresh w W) :
    Calls Try.prog 35 #[.pointer (some ⟨q, 0, none⟩)] W fun e w' => ∃ A C, e = .returned (.slice A (placesTo L.all L.all.length).length C) ∧ Lst W w' (fun _ => none) (.slice A (placesTo L.all L.all.length).length C) (placesTo L.all L.all.length) ∧ Fresh W w' := by
  obtain ⟨A, C, cs, hl⟩ := h
  exact there_walk W p q ll L A C cs (hl.only f fun _ _ q => q) hn

set_option maxRecDepth 200000 in
set_option maxHeartbeats 2000000 in
theorem act_other {w0 w : World} {p q : Nat} {lab ll : Lab} {M : PM} {L : PL} (h : Shadow w0 w p q lab ll M L) (hz : Led M L) (hf : M.frames.length < 1048600) (hmd : M.made ≤ 1048576) (hfl : ∀ l ∈ M.frames, l.length < Lim) (k : Int) (n : Int) (heap : Bool) (f x : Int) (h1 : (k == 1) = false) (h2 : (k == 2) = false) (h3 : (k == 3) = false) (h4 : (k == 4) = false) (h5 : (k == 5) = false) :
    Calls Try.prog 21 #[.pointer (some ⟨q, 0, none⟩), .agg #[.int .i64 k, .int .i64 n, .bool heap, .int .i64 f, .int .i64 x]] w fun e w' => e = .returned (.bool true) ∧ Acted w0 w' p q M := by
  have hn : L.all.length ≤ 1048576 := by rw [← hz.made]; exact hmd
  have hfL : M.frames.length < Lim := by unfold Lim; omega
  have hmL : M.made < Lim := by unfold Lim; omega
  have HTH := Lib.hid (act_pre h.led hn)
  have H := Lib.hid h
  have HZ := Lib.hid hz
  have HLM := Lib.hid (And.intro hfL (And.intro hmL hfl))
  have HND := Lib.hid (And.intro hn (show L.depth ≤ 1048600 by rw [← hz.dep]; omega))
  obtain ⟨pn, hpn⟩ : ∃ k, k = (placesTo L.all L.all.length).length := ⟨_, rfl⟩
  have hpl : pn ≤ 1048576 := by rw [hpn]; have := placesTo_len L.all L.all.length; omega
  have HPN := Lib.hid hpn
  rw [← hpn] at HTH
  clear h hz hf hmd hfl hn hfL hmL hpn
  go_enter Try.func21, Try.ntmps21
  go_wp2_with fail
  refine (HTH.out _ (alloc_fresh _ _)).mono ?_
  rintro e w1 ⟨A1, C1, rfl, L1, F1⟩
  have HL1 := Lib.hid L1
  have hbx := F1.blk (new_blk _) (fun q => q)
  obtain ⟨bx, hbxe⟩ : ∃ b, b = w.heap.size := ⟨_, rfl⟩
  rw [← hbxe] at hbx ⊢
  have HBX := Lib.hid (And.intro hbxe hbx)
  have k0 : w1.cell? ⟨bx, 0, none⟩ = some (.int .i64 k) := blk_cell hbx rfl
  have k1 : w1.cell? ⟨bx, 1, none⟩ = some (.int .i64 n) := blk_cell hbx rfl
  have k2 : w1.cell? ⟨bx, 2, none⟩ = some (.bool heap) := blk_cell hbx rfl
  have k3 : w1.cell? ⟨bx, 3, none⟩ = some (.int .i64 f) := blk_cell hbx rfl
  have k4 : w1.cell? ⟨bx, 4, none⟩ = some (.int .i64 x) := blk_cell hbx rfl
  have kl := blk_lt hbx
  have HS := Lib.hid (H.out.keep ((alloc_fresh w _).trans' F1))
  clear L1 F1 hbx hbxe HTH H
  go_wp2_with fail
  go_ret
  exact ⟨rfl, lab, ll, M, L, HS.out, HZ.out, .inl rfl⟩

set_option maxRecDepth 200000 in
set_option maxHeartbeats 2000000 in
theorem act_pop {w0 w : World} {p q : Nat} {lab ll : Lab} {M : PM} {L : PL} (h : Shadow w0 w p q lab ll M L) (hz : Led M L) (hf : M.frames.length < 1048600) (hmd : M.made ≤ 1048576) (hfl : ∀ l ∈ M.frames, l.length < Lim) (n : Int) (heap : Bool) (f x : Int) :
    Calls Try.prog 21 #[.pointer (some ⟨q, 0, none⟩), .agg #[.int .i64 2, .int .i64 n, .bool heap, .int .i64 f, .int .i64 x]] w fun e w' => e = .returned (.bool true) ∧ Acted w0 w' p q M := by
  have hn : L.all.length ≤ 1048576 := by rw [← hz.made]; exact hmd
  have hfL : M.frames.length < Lim := by unfold Lim; omega
  have hmL : M.made < Lim := by unfold Lim; omega
  have HTH := Lib.hid (act_pre h.led hn)
  have H := Lib.hid h
  have HZ := Lib.hid hz
  have HLM := Lib.hid (And.intro hfL (And.intro hmL hfl))
  have HND := Lib.hid (And.intro hn (show L.depth ≤ 1048600 by rw [← hz.dep]; omega))
  obtain ⟨pn, hpn⟩ : ∃ k, k = (placesTo L.all L.all.length).length := ⟨_, rfl⟩
  have hpl : pn ≤ 1048576 := by rw [hpn]; have := placesTo_len L.all L.all.length; omega
  have HPN := Lib.hid hpn
  rw [← hpn] at HTH
  clear h hz hf hmd hfl hn hfL hmL hpn
  go_enter Try.func21, Try.ntmps21
  go_wp2_with fail
  refine (HTH.out _ (alloc_fresh _ _)).mono ?_
  rintro e w1 ⟨A1, C1, rfl, L1, F1⟩
  have HL1 := Lib.hid L1
  have hbx := F1.blk (new_blk _) (fun q => q)
  obtain ⟨bx, hbxe⟩ : ∃ b, b = w.heap.size := ⟨_, rfl⟩
  rw [← hbxe] at hbx ⊢
  have HBX := Lib.hid (And.intro hbxe hbx)
  have k0 : w1.cell? ⟨bx, 0, none⟩ = some (.int .i64 2) := blk_cell hbx rfl
  have k1 : w1.cell? ⟨bx, 1, none⟩ = some (.int .i64 n) := blk_cell hbx rfl
  have k2 : w1.cell? ⟨bx, 2, none⟩ = some (.bool heap) := blk_cell hbx rfl
  have k3 : w1.cell? ⟨bx, 3, none⟩ = some (.int .i64 f) := blk_cell hbx rfl
  have k4 : w1.cell? ⟨bx, 4, none⟩ = some (.int .i64 x) := blk_cell hbx rfl
  have kl := blk_lt hbx
  have HS := Lib.hid (H.out.keep ((alloc_fresh w _).trans' F1))
  clear L1 F1 hbx hbxe HTH H
  by_cases h0 : L.depth = 0
  · have HC := Lib.hid (pop_none_led HS.out HZ.out HLM.out.1 HLM.out.2.2 h0)
    have HP := Lib.hid (HZ.out.popNone h0).2
    clear h0
    go_wp2_with fail
    refine HC.out.mono ?_
    clear HC
    rintro e w2 ⟨rfl, lab2, hS⟩
    have HS2 := Lib.hid hS
    clear hS
    go_wp2_with fail
    go_ret
    exact ⟨rfl, lab2, ll, M.pop, L, HS2.out, HP.out, .inr ⟨⟨3, 0, 0, false, (0, 0), (0, 0), []⟩, rfl⟩⟩
  · have HC := Lib.hid (pop_led HS.out HZ.out HND.out.1 HND.out.2 HLM.out.1 HLM.out.2.2 h0)
    have HP := Lib.hid (HZ.out.pop h0).2
    clear h0
    go_wp2_with fail
    refine HC.out.mono ?_
    clear HC
    rintro e w2 ⟨rfl, lab2, hS⟩
    have HS2 := Lib.hid hS
    clear hS
    go_wp2_with fail
    go_ret
    exact ⟨rfl, lab2, ll, M.pop, L.pop, HS2.out, HP.out, .inr ⟨⟨3, 0, 0, false, (0, 0), (0, 0), []⟩, rfl⟩⟩

set_option maxRecDepth 200000 in
set_option maxHeartbeats 2000000 in
theorem act_push {w0 w : World} {p q : Nat} {lab ll : Lab} {M : PM} {L : PL} (h : Shadow w0 w p q lab ll M L) (hz : Led M L) (hf : M.frames.length < 1048600) (hmd : M.made ≤ 1048576) (hfl : ∀ l ∈ M.frames, l.length < Lim) (n : Int) (heap : Bool) (f x : Int) :
    Calls Try.prog 21 #[.pointer (some ⟨q, 0, none⟩), .agg #[.int .i64 1, .int .i64 n, .bool heap, .int .i64 f, .int .i64 x]] w fun e w' => e = .returned (.bool true) ∧ Acted w0 w' p q M := by
  have hn : L.all.length ≤ 1048576 := by rw [← hz.made]; exact hmd
  have hfL : M.frames.length < Lim := by unfold Lim; omega
  have hmL : M.made < Lim := by unfold Lim; omega
  have HTH := Lib.hid (act_pre h.led hn)
  have H := Lib.hid h
  have HZ := Lib.hid hz
  have HLM := Lib.hid (And.intro hfL (And.intro hmL hfl))
  have HND := Lib.hid (And.intro hn (show L.depth ≤ 1048600 by rw [← hz.dep]; omega))
  obtain ⟨pn, hpn⟩ : ∃ k, k = (placesTo L.all L.all.length).length := ⟨_, rfl⟩
  have hpl : pn ≤ 1048576 := by rw [hpn]; have := placesTo_len L.all L.all.length; omega
  have HPN := Lib.hid hpn
  rw [← hpn] at HTH
  clear h hz hf hmd hfl hn hfL hmL hpn
  go_enter Try.func21, Try.ntmps21
  go_wp2_with fail
  refine (HTH.out _ (alloc_fresh _ _)).mono ?_
  rintro e w1 ⟨A1, C1, rfl, L1, F1⟩
  have HL1 := Lib.hid L1
  have hbx := F1.blk (new_blk _) (fun q => q)
  obtain ⟨bx, hbxe⟩ : ∃ b, b = w.heap.size := ⟨_, rfl⟩
  rw [← hbxe] at hbx ⊢
  have HBX := Lib.hid (And.intro hbxe hbx)
  have k0 : w1.cell? ⟨bx, 0, none⟩ = some (.int .i64 1) := blk_cell hbx rfl
  have k1 : w1.cell? ⟨bx, 1, none⟩ = some (.int .i64 n) := blk_cell hbx rfl
  have k2 : w1.cell? ⟨bx, 2, none⟩ = some (.bool heap) := blk_cell hbx rfl
  have k3 : w1.cell? ⟨bx, 3, none⟩ = some (.int .i64 f) := blk_cell hbx rfl
  have k4 : w1.cell? ⟨bx, 4, none⟩ = some (.int .i64 x) := blk_cell hbx rfl
  have kl := blk_lt hbx
  have HS := Lib.hid (H.out.keep ((alloc_fresh w _).trans' F1))
  clear L1 F1 hbx hbxe HTH H
  obtain ⟨A, C, cs, hl⟩ := HS.out.led
  obtain ⟨d, hd⟩ : ∃ d, d = L.depth := ⟨_, rfl⟩
  obtain ⟨N, hN⟩ : ∃ N, N = L.all.length := ⟨_, rfl⟩
  have hself := hl.self
  rw [← hd, ← hN] at hself
  have hd2 := HND.out.2
  rw [← hd] at hd2
  have c0 : w1.cell? ⟨q, 0, none⟩ = some (.pointer (some ⟨p, 0, none⟩)) := blk_cell hself rfl
  have c1 : w1.cell? ⟨q, 1, none⟩ = some (.int .i64 d) := blk_cell hself rfl
  have hq := blk_lt hself
  have fq := blk_frozen hself 1
  have HL := Lib.hid hl
  have HDN := Lib.hid (And.intro hd hN)
  clear hl hd hN hself
  go_wp2_with fail
  have hS2 : Shadow w0 (w1.setCell ⟨q, 1, none⟩ (.int .i64 ((d : Int) + 1))) p q lab ll M L.push := by
    have w2 := HL.out.deep (d + 1)
    have e : ((d + 1 : Nat) : Int) = (d : Int) + 1 := by omega
    rw [e] at w2
    unfold PL.push
    rw [← HDN.out.1]
    exact HS.out.wrote ((Only.refl w1 (fun b => ll b ≠ none)).setCell (p := ⟨q, 1, none⟩) (.inl (by rw [HL.out.lself]; simp)) _) ⟨_, _, _, w2⟩
  have HS2 := Lib.hid hS2
  clear hS2
  refine (Own.push HS2.out.own HLM.out.1).mono ?_
  rintro e w3 ⟨rfl, lab3, O3, X3⟩
  have HS3 := Lib.hid (HS2.out.mem O3 X3)
  clear O3 X3
  go_wp2_with fail
  go_ret
  exact ⟨rfl, lab3, ll, M.push, L.push, HS3.out, HZ.out.push, .inr ⟨⟨2, 0, 0, false, (0, 0), (0, 0), []⟩, rfl⟩⟩

set_option maxRecDepth 200000 in
set_option maxHeartbeats 2000000 in
theorem act_make {w0 w : World} {p q : Nat} {lab ll : Lab} {M : PM} {L : PL} (h : Shadow w0 w p q lab ll M L) (hz : Led M L) (hf : M.frames.length < 1048600) (hmd : M.made ≤ 1048576) (hfl : ∀ l ∈ M.frames, l.length < Lim) (n : Int) (heap : Bool) (f x : Int) :
    Calls Try.prog 21 #[.pointer (some ⟨q, 0, none⟩), .agg #[.int .i64 3, .int .i64 n, .bool heap, .int .i64 f, .int .i64 x]] w fun e w' => e = .returned (.bool true) ∧ Acted w0 w' p q M := by
  have hn : L.all.length ≤ 1048576 := by rw [← hz.made]; exact hmd
  have hfL : M.frames.length < Lim := by unfold Lim; omega
  have hmL : M.made < Lim := by unfold Lim; omega
  have HTH := Lib.hid (act_pre h.led hn)
  have H := Lib.hid h
  have HZ := Lib.hid hz
  have HLM := Lib.hid (And.intro hfL (And.intro hmL hfl))
  have HND := Lib.hid (And.intro hn (show L.depth ≤ 1048600 by rw [← hz.dep]; omega))
  obtain ⟨pn, hpn⟩ : ∃ k, k = (placesTo L.all L.all.length).length := ⟨_, rfl⟩
  have hpl : pn ≤ 1048576 := by rw [hpn]; have := placesTo_len L.all L.all.length; omega
  have HPN := Lib.hid hpn
  rw [← hpn] at HTH
  clear h hz hf hmd hfl hn hfL hmL hpn
  go_enter Try.func21, Try.ntmps21
  go_wp2_with fail
  refine (HTH.out _ (alloc_fresh _ _)).mono ?_
  rintro e w1 ⟨A1, C1, rfl, L1, F1⟩
  have HL1 := Lib.hid L1
  have hbx := F1.blk (new_blk _) (fun q => q)
  obtain ⟨bx, hbxe⟩ : ∃ b, b = w.heap.size := ⟨_, rfl⟩
  rw [← hbxe] at hbx ⊢
  have HBX := Lib.hid (And.intro hbxe hbx)
  have k0 : w1.cell? ⟨bx, 0, none⟩ = some (.int .i64 3) := blk_cell hbx rfl
  have k1 : w1.cell? ⟨bx, 1, none⟩ = some (.int .i64 n) := blk_cell hbx rfl
  have k2 : w1.cell? ⟨bx, 2, none⟩ = some (.bool heap) := blk_cell hbx rfl
  have k3 : w1.cell? ⟨bx, 3, none⟩ = some (.int .i64 f) := blk_cell hbx rfl
  have k4 : w1.cell? ⟨bx, 4, none⟩ = some (.int .i64 x) := blk_cell hbx rfl
  have kl := blk_lt hbx
  have HS := Lib.hid (H.out.keep ((alloc_fresh w _).trans' F1))
  clear L1 F1 hbx hbxe HTH H
  have HMOD := Lib.hid (fun W => (mod_any W n 8 (by omega) (by omega)).mono (R' := fun e w' => e = .returned (.int .i64 (n % 8)) ∧ w' = W) fun _ _ h => ⟨h.1, h.2.symm⟩)
  have hz0 : 0 ≤ n % 8 := by omega
  have hz7 : n % 8 ≤ 7 := by omega
  obtain ⟨z, hz⟩ : ∃ z, z = n % 8 := ⟨_, rfl⟩
  rw [← hz] at HMOD hz0 hz7
  clear hz
  have hww : IntKind.i64.wrap (1 + z) = 1 + z := IntWalk.i64_in _ (by omega)
  have HOP := Lib.hid (show M.make (1 + z) heap = M.oneM ⟨4, 0, 1 + z, heap, (0, 0), (0, 0), []⟩ from rfl)
  by_cases h0 : L.depth = 0
  · have HC := Lib.hid (make_none_led (HS.out.keep (Only.refl _ _).drew) HZ.out HLM.out.1 HLM.out.2.1 HLM.out.2.2 h0 (1 + z) heap (by omega) (by omega))
    clear h0
    go_wp2_with fail
    refine wp_region_still_tail 7 (by kernel_rfl) (by kernel_rfl) ?_
    simp only [List.take_succ_cons, List.take_zero, List.drop_succ_cons, List.drop_zero]
    repeat still_step
    still_call (HMOD.out _)
    repeat still_step
    refine wpStill_nil ?_
    go_wp2_with fail
    refine HC.out.mono ?_
    clear HC
    rintro e w2 ⟨rfl, lab2, hS⟩
    have HS2 := Lib.hid hS
    clear hS
    go_wp2_with fail
    go_ret
    exact ⟨rfl, lab2, ll, M, L, HS2.out, HZ.out, .inl rfl⟩
  · have HC := Lib.hid (make_led (HS.out.keep (Only.refl _ _).drew) HZ.out HLM.out.1 HLM.out.2.1 HLM.out.2.2 HND.out.1 h0 (1 + z) heap (by omega) (by omega))
    have HP := Lib.hid (HZ.out.make h0 (1 + z) heap (by omega) (by omega)).2.2
    generalize M.make (1 + z) heap = M2 at *
    generalize L.make (1 + z) heap = L2 at *
    clear h0
    go_wp2_with fail
    refine wp_region_still_tail 7 (by kernel_rfl) (by kernel_rfl) ?_
    simp only [List.take_succ_cons, List.take_zero, List.drop_succ_cons, List.drop_zero]
    repeat still_step
    still_call (HMOD.out _)
    repeat still_step
    refine wpStill_nil ?_
    go_wp2_with fail
    refine HC.out.mono ?_
    clear HC
    rintro e w2 ⟨rfl, lab2, ll2, hS⟩
    have HS2 := Lib.hid hS
    clear hS
    go_wp2_with fail
    go_ret
    exact ⟨rfl, lab2, ll2, M2, L2, HS2.out, HP.out, .inr ⟨_, HOP.out⟩⟩
end Go.Proofs.Ytabfmoedbnpihaa
