/- A step towards the laws on the cells of a run: the ledger's there and pop. No conditions of its own beyond those that its theorems name. -/
import Derived.Test.YtabfmoedbnpihaaKLedW
import Derived.BigQuiet
import Derived.Deep.QuietTactic
namespace Go.Proofs.Ytabfmoedbnpihaa
open Go.RowKit Go.MapKept

set_option maxRecDepth 100000 in
set_option maxHeartbeats 1000000 in
theorem there_walk (w : World) (p q : Nat) (ll : Lab) (L : PL) (A : Option Addr) (C : Nat) (cs : List Value) (h : LedIs w q ll p L A C cs) (hn : L.all.length ≤ 1048576) :
    Calls Try.prog 35 #[.pointer (some ⟨q, 0, none⟩)] w fun e w' => ∃ A C, e = .returned (.slice A (placesTo L.all L.all.length).length C) ∧ Lst w w' (fun _ => none) (.slice A (placesTo L.all L.all.length).length C) (placesTo L.all L.all.length) ∧ Fresh w w' := by
  have H := Lib.hid h
  obtain ⟨n, hnn⟩ : ∃ n, n = L.all.length := ⟨_, rfl⟩
  have hself := h.self
  rw [← hnn] at hn hself ⊢
  have c2 : w.cell? ⟨q, 2, none⟩ = some (.slice A n C) := blk_cell hself rfl
  have hq := blk_lt hself
  have HN := Lib.hid hnn
  have HC2 := Lib.hid c2
  obtain ⟨i0, hin, hz0', hz1', hz2'⟩ := info_parts infoInt
  have HIN := Lib.hid (And.intro hin (And.intro hz0' (And.intro hz1' hz2')))
  clear hin hz0' hz1' hz2' h hnn hself
  go_enter Try.func35, Try.ntmps35
  go_wp2_with fail
  clear c2
  go_loopw [3, 4] (fun s3 s4 wr => ∃ (i : Nat) (l : List Int) (B : Option Addr) (D : Nat), i ≤ n ∧ s3 = .slice B l.length D ∧ s4 = .int .i64 i ∧ l = placesTo L.all i ∧ Fresh w wr ∧ Lst w wr (fun _ => none) (.slice B l.length D) l) (fun _ s4 _ => n - (intOf s4).toNat)
  case atStart => exact ⟨0, [], none, 0, Nat.zero_le _, rfl, rfl, rfl, Only.refl _ _, Lst.nil _ _ _⟩
  case round =>
    obtain ⟨i, l, B, D, hi, rfl, rfl, hl, hf, hls⟩ := hrel
    have HF := Lib.hid hf
    have HL := Lib.hid (And.intro hl hls)
    have hll : l.length ≤ 1048576 := by rw [hl]; have := placesTo_len L.all i; omega
    have c2 : wr.cell? ⟨q, 2, none⟩ = some (.slice A n C) := (Fresh.cel hf (p := ⟨q, 2, none⟩) hq).trans HC2.out
    clear hf hl hls
    by_cases hlt : i < n
    · obtain ⟨m, hm⟩ : ∃ m, L.all[i]? = some m := ⟨L.all[i]'(by rw [← HN.out]; exact hlt), List.getElem?_eq_getElem _⟩
      obtain ⟨g, B0, D0, rfl, hg, _, _, _, _, k4, _, _, _⟩ := H.out.at hm
      have c4 : wr.cell? ⟨g, i * 5 + 4, none⟩ = some (.bool m.there) := (Fresh.cel HF.out (p := ⟨g, _, none⟩) hg).trans k4
      have HM := Lib.hid hm
      clear k4 hm
      obtain ⟨t, ht⟩ : ∃ t, t = m.there := ⟨_, rfl⟩
      rw [← ht] at c4
      have HT := Lib.hid ht
      clear ht
      cases t with
      | true =>
        go_wp2_with (at_builtin; go_must (refine wpl_app _ rfl _ _ 39 rfl 0 3 i0 (.int .i64 0) 1 8 Try.underlying39 HIN.out.1 HIN.out.2.1 HIN.out.2.2.1 HIN.out.2.2.2 rfl (by decide) (.slice B l.length D) _ _ rfl ((HL.out.2.fresh (alloc_fresh _ _)).1) wr.heap.size 1 1 [.int .i64 i] 3 (0, 0) rfl (new_blk _) rfl (by simp [Value.oneCell']) (by unfold maxLen; omega) (by omega) (Nat.zero_le _) ?_); intro A4 C4 w4 hown hgrow hat; have HW := Lib.hid (And.intro hown (And.intro hgrow hat)); clear hown hgrow hat)
        go_roundw
        case rel =>
          refine ⟨i + 1, l ++ [(i : Int)], A4, C4, by omega, by rw [llen1], by go_num, by rw [placesTo_succ HM.out, ← HT.out, ← HL.out.1]; rfl, (HF.out.trans' (alloc_fresh _ _)).grown HW.out.2.1 fun g hg => .inr (HL.out.2.2 g hg).2, ?_⟩
          rw [llen1]
          exact (HL.out.2.fresh (alloc_fresh _ _)).app HW.out.1 HW.out.2.2 (fun b hb => absurd rfl hb) (Nat.le_trans HF.out.size (by simp))
        case measure => simp [intOf]; omega
      | false =>
        go_wp2_with fail
        go_roundw
        case rel => exact ⟨i + 1, l, B, D, by omega, rfl, by go_num, by rw [placesTo_succ HM.out, ← HT.out, ← HL.out.1]; simp, HF.out, HL.out.2⟩
        case measure => simp [intOf]; omega
    · go_wp2_with fail
      go_ret
      obtain rfl : i = n := by omega
      exact ⟨B, D, by rw [← HL.out.1]; rfl, by rw [← HL.out.1]; exact HL.out.2, HF.out⟩

/-- the list of the ledger, its first i gone through by a frame's end -/
def popTo (d : Int) (l : List PMade) (i : Nat) : List PMade := (l.take i).map (popF d) ++ l.drop i
theorem popTo_get {d : Int} {l : List PMade} {i j : Nat} : (popTo d l i)[j]? = if j < i then (l[j]?).map (popF d) else l[j]? := by
  unfold popTo
  by_cases hj : j < i
  · rw [if_pos hj]
    by_cases hl : j < l.length
    · rw [List.getElem?_append_left (by simp; omega), List.getElem?_map, List.getElem?_take, if_pos hj]
    · rw [List.getElem?_eq_none (by simp; omega), List.getElem?_eq_none (by omega)]
      rfl
  · rw [if_neg hj]
    by_cases hl : i ≤ l.length
    · rw [List.getElem?_append_right (by simp; omega), List.getElem?_drop]
      congr 1
      simp
      omega
    · rw [List.getElem?_eq_none (by simp; omega), List.getElem?_eq_none (by omega)]
theorem popTo_len (d : Int) (l : List PMade) (i : Nat) : (popTo d l i).length = l.length := by
  unfold popTo
  simp
  omega
theorem popTo_set {d : Int} {l : List PMade} {i : Nat} {m m' : PMade} (h : l[i]? = some m) (hm : m' = popF d m) : popTo d l (i + 1) = (popTo d l i).set i m' := by
  refine List.ext_getElem? fun j => ?_
  rw [List.getElem?_set, popTo_get, popTo_get, popTo_len]
  by_cases hj : i = j
  · subst hj
    rw [if_pos (by omega), if_pos rfl, if_pos (List.getElem?_eq_some_iff.1 h).1, h, hm]
    rfl
  · rw [if_neg hj]
    by_cases h2 : j < i
    · rw [if_pos h2, if_pos (by omega)]
    · rw [if_neg h2, if_neg (by omega)]
theorem popTo_same {d : Int} {l : List PMade} {i : Nat} {m : PMade} (h : l[i]? = some m) (hm : popF d m = m) : popTo d l (i + 1) = popTo d l i := by
  rw [popTo_set h hm.symm]
  refine List.ext_getElem? fun j => ?_
  rw [List.getElem?_set, popTo_len]
  by_cases hj : i = j
  · subst hj
    rw [if_pos rfl, if_pos (List.getElem?_eq_some_iff.1 h).1, popTo_get, if_neg (by omega), h]
  · rw [if_neg hj]
theorem popTo_all (d : Int) (l : List PMade) : popTo d l l.length = l.map (popF d) := by
  unfold popTo
  simp
theorem set_set {l : List PMade} {i : Nat} {a b : PMade} : (l.set i a).set i b = l.set i b := by simp

theorem LedIs.popAt {wr : World} {q p g C d i : Nat} {ll : Lab} {l : List PMade} {cs : List Value} {m : PMade} (h : LedIs wr q ll p ⟨d, popTo d l i⟩ (some ⟨g, 0, none⟩) C cs) (hm : l[i]? = some m) (hd : (d : Int) = m.depth) (b : Bool) (hb : b = (m.there && m.heap)) :
    ∃ cs', LedIs ((wr.setCell ⟨g, i * 5 + 2, none⟩ (.int .i64 (-1))).setCell ⟨g, i * 5 + 4, none⟩ (.bool b)) q ll p ⟨d, popTo d l (i + 1)⟩ (some ⟨g, 0, none⟩) C cs' := by
  have hm2 : (popTo (d : Int) l i)[i]? = some m := by rw [popTo_get, if_neg (by omega)]; exact hm
  have w1 := h.word hm2 rfl 2 (.int .i64 (-1)) (m' := { m with depth := -1 }) (.inl ⟨rfl, rfl, rfl⟩)
  have e : popF (d : Int) m = { m with depth := -1, there := m.there && m.heap } := by unfold popF; rw [if_pos hd.symm]
  have w2 := w1.word (m := { m with depth := -1 }) (set_old hm2) rfl 4 (.bool b) (m' := popF d m) (.inr ⟨rfl, by rw [e, hb], by rw [e]⟩)
  dsimp only at w2
  rw [set_set, ← popTo_set hm rfl] at w2
  exact ⟨_, w2⟩

set_option maxRecDepth 200000 in
set_option maxHeartbeats 2000000 in
theorem pop_led {w0 w : World} {p q : Nat} {lab ll : Lab} {M : PM} {L : PL} (h : Shadow w0 w p q lab ll M L) (hz : Led M L) (hn : L.all.length ≤ 1048576) (hd : L.depth ≤ 1048600) (hf : M.frames.length < Lim) (hfl : ∀ l ∈ M.frames, l.length < Lim) (h0 : L.depth ≠ 0) :
    Calls Try.prog 36 #[.pointer (some ⟨q, 0, none⟩)] w fun e w' => e = .returned (.bool true) ∧ ∃ lab2, Shadow w0 w' p q lab2 ll M.pop L.pop := by
  obtain ⟨A, C, cs, hl⟩ := h.led
  have hpe := (hz.pop h0).1
  have hc := Own.pop h.own hf hfl
  rw [hpe] at hc
  have HC := Lib.hid hc
  have H := Lib.hid h
  have hself := hl.self
  have HL := Lib.hid hl
  have c0 : w.cell? ⟨q, 0, none⟩ = some (.pointer (some ⟨p, 0, none⟩)) := blk_cell hself rfl
  have hq := blk_lt hself
  obtain ⟨d, hdd⟩ : ∃ d, d = L.depth := ⟨_, rfl⟩
  obtain ⟨n, hnn⟩ : ∃ n, n = L.all.length := ⟨_, rfl⟩
  rw [← hnn] at hn
  rw [← hdd] at hd h0
  have HDN := Lib.hid (And.intro hdd hnn)
  have d0 : decide (d = 0) = false := by simp [h0]
  have d0b : ((d : Int) == 0) = false := by simp; omega
  clear h hz hf hfl hl hc hpe hself hdd hnn h0
  go_enter Try.func36, Try.ntmps36
  go_wp2_with fail
  refine HC.out.mono ?_
  clear HC c0
  rintro e w2 ⟨rfl, lab2, O2, X2⟩
  have hS := H.out.mem O2 X2
  obtain ⟨A, C, cs, hl⟩ := hS.led
  have HS := Lib.hid hS
  have hself := hl.self
  rw [← HDN.out.1, ← HDN.out.2] at hself
  have HSF := Lib.hid hself
  have c1 : w2.cell? ⟨q, 1, none⟩ = some (.int .i64 d) := blk_cell hself rfl
  have hq2 := blk_lt hself
  have HL2 := Lib.hid hl
  clear O2 X2 H HL hS hself hl hq
  go_wp2_with fail
  clear c1
  go_loopw [4] (fun s4 wr => ∃ (i : Nat) (cs : List Value), i ≤ n ∧ s4 = .int .i64 i ∧ Shadow w0 wr p q lab2 ll M.pop ⟨d, popTo d L.all i⟩ ∧ LedIs wr q ll p ⟨d, popTo d L.all i⟩ A C cs) (fun s4 _ => n - (intOf s4).toNat)
  case atStart =>
    have hS : Shadow w0 w2 p q lab2 ll M.pop ⟨d, popTo d L.all 0⟩ := by
      rw [HDN.out.1]
      exact HS.out
    refine ⟨0, cs, Nat.zero_le _, rfl, hS, ?_⟩
    rw [HDN.out.1]
    exact HL2.out
  case round =>
    clear HS HL2 HSF cs
    obtain ⟨i, cs, hi, rfl, hS, hl⟩ := hrel
    have HS := Lib.hid hS
    have HL2 := Lib.hid hl
    have hself := hl.self
    have hplen : (popTo (d : Int) L.all i).length = n := by rw [popTo_len, HDN.out.2]
    have e2 : (⟨d, popTo (d : Int) L.all i⟩ : PL).all.length = n := hplen
    rw [e2] at hself
    have c1 : wr.cell? ⟨q, 1, none⟩ = some (.int .i64 d) := blk_cell hself rfl
    have c2 : wr.cell? ⟨q, 2, none⟩ = some (.slice A n C) := blk_cell hself rfl
    have fq := blk_frozen hself 1
    have hq3 := blk_lt hself
    have HSF := Lib.hid hself
    clear hS hl hself hplen e2
    by_cases hlt : i < n
    · obtain ⟨m, hm⟩ : ∃ m, L.all[i]? = some m := ⟨L.all[i]'(by rw [← HDN.out.2]; exact hlt), List.getElem?_eq_getElem _⟩
      have hm2 : (popTo (d : Int) L.all i)[i]? = some m := by rw [popTo_get, if_neg (by omega)]; exact hm
      obtain ⟨g, B0, D0, rfl, hg, _, _, k2, k3, k4, kf, hlg, _⟩ := HL2.out.at hm2
      have HM := Lib.hid (And.intro hm hm2)
      have HG := Lib.hid hlg
      obtain ⟨md, hmd⟩ : ∃ x, x = m.depth := ⟨_, rfl⟩
      obtain ⟨mh, hmh⟩ : ∃ x, x = m.heap := ⟨_, rfl⟩
      obtain ⟨mt, hmt⟩ : ∃ x, x = m.there := ⟨_, rfl⟩
      rw [← hmd] at k2
      rw [← hmh] at k3
      rw [← hmt] at k4
      have HMV := Lib.hid (And.intro hmd (And.intro hmh hmt))
      have kf2 := kf (i * 5 + 2)
      have kf4 := kf (i * 5 + 4)
      have hgq : g ≠ q := ll_ne hlg HL2.out.lself (by simp)
      have HGQ := Lib.hid hgq
      clear hm hm2 hlg kf hmd hmh hmt
      by_cases hdm : md = d
      · subst hdm
        have d1 : ((d : Int) == d) = true := by simp
        go_wp2_with fail
        go_still (by kernel_rfl)
        cases mt with
        | true =>
          go_wp2_with fail
          go_region
          go_wp2_with fail
          go_roundw
          case rel =>
            obtain ⟨cs', w2⟩ := HL2.out.popAt HM.out.1 HMV.out.1 mh (by rw [← HMV.out.2.2]; simp; exact HMV.out.2.1)
            have ho : Only wr ((wr.setCell ⟨g, i * 5 + 2, none⟩ (.int .i64 (-1))).setCell ⟨g, i * 5 + 4, none⟩ (.bool mh)) fun b => ll b ≠ none := ((Only.refl wr (fun b => ll b ≠ none)).setCell (p := ⟨g, i * 5 + 2, none⟩) (.inl (by rw [HG.out]; simp)) _).setCell (p := ⟨g, i * 5 + 4, none⟩) (.inl (by rw [HG.out]; simp)) _
            have fr : Fresh ((wr.setCell ⟨g, i * 5 + 2, none⟩ (.int .i64 (-1))).setCell ⟨g, i * 5 + 4, none⟩ (.bool mh)) _ := (Only.refl _ _).drew.drew
            exact ⟨i + 1, cs', by omega, by go_num, (HS.out.wrote ho ⟨_, _, _, w2⟩).keep fr, w2.only fr fun _ _ q => q⟩
          case measure => simp [intOf]; omega
        | false =>
          go_wp2_with fail
          go_region
          go_wp2_with fail
          go_roundw
          case rel =>
            obtain ⟨cs', w2⟩ := HL2.out.popAt HM.out.1 HMV.out.1 false (by rw [← HMV.out.2.2]; simp)
            have ho : Only wr ((wr.setCell ⟨g, i * 5 + 2, none⟩ (.int .i64 (-1))).setCell ⟨g, i * 5 + 4, none⟩ (.bool false)) fun b => ll b ≠ none := ((Only.refl wr (fun b => ll b ≠ none)).setCell (p := ⟨g, i * 5 + 2, none⟩) (.inl (by rw [HG.out]; simp)) _).setCell (p := ⟨g, i * 5 + 4, none⟩) (.inl (by rw [HG.out]; simp)) _
            have fr : Fresh ((wr.setCell ⟨g, i * 5 + 2, none⟩ (.int .i64 (-1))).setCell ⟨g, i * 5 + 4, none⟩ (.bool false)) _ := (Only.refl _ _).drew.drew
            exact ⟨i + 1, cs', by omega, by go_num, (HS.out.wrote ho ⟨_, _, _, w2⟩).keep fr, w2.only fr fun _ _ q => q⟩
          case measure => simp [intOf]; omega
      · have d1 : (md == (d : Int)) = false := by simpa using hdm
        go_wp2_with fail
        go_still (by kernel_rfl)
        go_wp2_with fail
        go_roundw
        case rel =>
          have hp : popF (d : Int) m = m := by
            unfold popF
            rw [if_neg]
            rw [← HMV.out.1]
            exact hdm
          exact ⟨i + 1, cs, by omega, by go_num, by rw [popTo_same HM.out.1 hp]; exact HS.out.keep (Only.refl _ _).drew, by rw [popTo_same HM.out.1 hp]; exact HL2.out.only (S := fun _ => False) (Only.refl _ _).drew fun _ _ q => q⟩
        case measure => simp [intOf]; omega
    · go_wp2_with fail
      go_ret
      obtain rfl : i = n := by omega
      refine ⟨rfl, lab2, ?_⟩
      have w1 := HL2.out.deep (d - 1)
      have hdn : d - 1 = L.depth - 1 := by rw [HDN.out.1]
      have ha : popTo (d : Int) L.all i = L.all.map (popF L.depth) := by rw [HDN.out.2, popTo_all, HDN.out.1]
      dsimp only at w1
      rw [ha] at w1
      have ed : ((d - 1 : Nat) : Int) = (d : Int) - 1 := by have := d0; simp at this; omega
      rw [ed] at w1
      have hp : L.pop = ⟨d - 1, L.all.map (popF L.depth)⟩ := by unfold PL.pop; rw [hdn]
      rw [hp]
      exact HS.out.wrote ((Only.refl wr (fun b => ll b ≠ none)).setCell (p := ⟨q, 1, none⟩) (.inl (by rw [HL2.out.lself]; simp)) _) ⟨_, _, _, w1⟩

set_option maxRecDepth 100000 in
set_option maxHeartbeats 1000000 in
theorem pop_none_led {w0 w : World} {p q : Nat} {lab ll : Lab} {M : PM} {L : PL} (h : Shadow w0 w p q lab ll M L) (hz : Led M L) (hf : M.frames.length < Lim) (hfl : ∀ l ∈ M.frames, l.length < Lim) (h0 : L.depth = 0) :
    Calls Try.prog 36 #[.pointer (some ⟨q, 0, none⟩)] w fun e w' => e = .returned (.bool true) ∧ ∃ lab2, Shadow w0 w' p q lab2 ll M.pop L := by
  obtain ⟨A, C, cs, hl⟩ := h.led
  have hpe := (hz.popNone h0).1
  have hc := Own.pop h.own hf hfl
  rw [hpe] at hc
  have HC := Lib.hid hc
  have H := Lib.hid h
  have hself := hl.self
  rw [h0] at hself
  have c0 : w.cell? ⟨q, 0, none⟩ = some (.pointer (some ⟨p, 0, none⟩)) := blk_cell hself rfl
  have hq := blk_lt hself
  have H0 := Lib.hid h0
  clear h hz hf hfl hl hc hpe hself h0
  go_enter Try.func36, Try.ntmps36
  go_wp2_with fail
  refine HC.out.mono ?_
  clear HC c0
  rintro e w2 ⟨rfl, lab2, O2, X2⟩
  have hS := H.out.mem O2 X2
  obtain ⟨A, C, cs, hl⟩ := hS.led
  have HS := Lib.hid hS
  have hself := hl.self
  rw [H0.out] at hself
  have c1 : w2.cell? ⟨q, 1, none⟩ = some (.int .i64 0) := blk_cell hself rfl
  have hq2 := blk_lt hself
  clear O2 X2 H hS hself hl hq
  go_wp2_with fail
  go_ret
  exact ⟨rfl, lab2, HS.out⟩
end Go.Proofs.Ytabfmoedbnpihaa
