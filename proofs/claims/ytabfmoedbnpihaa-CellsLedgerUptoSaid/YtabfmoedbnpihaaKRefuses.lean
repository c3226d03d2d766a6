/- A step towards the laws on the cells of a run: the walk of CellsRefuses. No conditions of its own beyond those that its theorems name. -/
import Derived.Test.YtabfmoedbnpihaaKEq
namespace Go.Proofs.Ytabfmoedbnpihaa
open Go.RowKit Go.MapKept

/-- ahead of the i-th call: both memories are the same -/
def RRel (w : World) (p q n : Nat) (s3 s6 s7 : Value) (wr : World) : Prop :=
  ∃ (i md : Nat) (M : PM) (la lb : Lab), i ≤ n ∧ md ≤ i ∧ s3 = .bool true ∧ s6 = .int .i64 md ∧ s7 = .int .i64 i ∧ Two w wr p q la lb M M ∧ Small i M ∧ M.Dom
theorem Lst.other {w wr : World} {la lb : Lab} {v : Value} {l : List Int} (h : Lst w wr la v l) (ho : ∀ c, lb c ≠ none → c < w.heap.size) : Lst w wr lb v l :=
  ⟨h.1, fun g hg => ⟨Decidable.byContradiction fun k => by have := ho g k; have := (h.2 g hg).2; omega, (h.2 g hg).2⟩⟩
theorem Lst.len {w wr : World} {la : Lab} {v : Value} {l : List Int} (h : Lst w wr la v l) : l.length ≤ 9223372036854775807 := by
  rcases h.1.2 with ⟨_, q⟩ | ⟨g, cap, cur, _, _, _, q1, q2, _⟩
  · simp at q
    simp [q]
  · unfold maxLen at q2
    omega
theorem oneN_le {i : Nat} {M : PM} (h : Small i M) (o : POp) : 0 ≤ M.oneN o ∧ M.oneN o ≤ (i : Int) + 1 := by
  have := h.made
  unfold PM.oneN
  split
  · unfold PM.mkN
    split <;> omega
  · omega
theorem pl1_dom : pl1.Dom := fun _ hk => absurd rfl hk

set_option maxRecDepth 200000 in
set_option maxHeartbeats 1000000 in
theorem refuses_walk (w : World) (A : Option Addr) (n C : Nat) (xs : List InOp) (hv : Ops w A n xs) (hn : n ≤ 1048576) :
    Calls Try.prog 7 #[.slice A n C] w fun e w' => e = .returned (.bool true) ∧ Fresh w w' := by
  have HV := Lib.hid hv
  clear hv
  go_enter Try.func7, Try.ntmps7
  go_wp2_with fail
  refine (fixed_any w).mono ?_
  rintro e w0 ⟨rfl, F0⟩
  have HF0 := Lib.hid F0
  clear F0
  go_wp2_with fail
  refine (own_new w w0 HF0.out 2).mono ?_
  rintro e w1 ⟨p, la, rfl, Oa, _, _⟩
  have HA := Lib.hid Oa
  clear Oa
  go_wp2_with fail
  refine (own_new w1 w1 (Only.refl _ _) 2).mono ?_
  rintro e w2 ⟨q, lb, rfl, Ob, Fb, Nb⟩
  have HT := Lib.hid (HA.out.two (w2 := w2) ⟨Ob.mem, fun c hc => Nat.le_trans HA.out.size (Nb c hc), HA.out.fresh.trans' Fb⟩ Fb Nb)
  clear Ob Fb Nb HA
  go_wp2_with fail
  refine (Own.push (M := pl0) HT.out.one (by decide)).mono ?_
  rintro e w3 ⟨rfl, l3, O3, X3⟩
  have HT3 := Lib.hid (HT.out.left O3 X3)
  clear O3 X3 HT
  go_wp2_with fail
  refine (Own.push (M := pl0) HT3.out.two (by decide)).mono ?_
  rintro e w4 ⟨rfl, l4, O4, X4⟩
  have HT4 := Lib.hid (HT3.out.right O4 X4)
  clear O4 X4 HT3
  go_wp2_with fail
  go_loopw [3, 6, 7] (fun s3 s6 s7 wr => RRel w p q n s3 s6 s7 wr) (fun _ _ s7 _ => n - (intOf s7).toNat)
  case atStart => exact ⟨0, 0, pl1, l3, l4, Nat.zero_le _, Nat.le_refl _, rfl, rfl, rfl, HT4.out, pl1_small, pl1_dom⟩
  case round =>
    clear HT4
    obtain ⟨i, md, M, la, lb, hi, hmd, rfl, rfl, rfl, T, Z, D⟩ := hrel
    have HT := Lib.hid T
    have HZ := Lib.hid Z
    have HD := Lib.hid D
    clear T Z D
    by_cases hlt : i < n
    · obtain ⟨x, hx⟩ : ∃ x, xs[i]? = some x := ⟨xs[i]'(by have := HV.out.1; omega), List.getElem?_eq_getElem _⟩
      obtain ⟨bb, oo, rfl, hb, e0, e1, e2, e3, e4, e5, e6, e7, e8, hil, hln⟩ := HV.out.2 i x hx
      have HE := Lib.hid (And.intro e0 (And.intro e1 (And.intro e2 (And.intro e3 (And.intro e4 (And.intro e5 (And.intro e6 (And.intro e7 e8))))))))
      have HIL := Lib.hid (And.intro hil hln)
      have F := HT.out.one.fresh
      rw [← Fresh.cel F (p := ⟨bb, _, none⟩) hb] at e0 e1 e2 e3 e4 e5 e6 e7 e8
      clear F hx hil hln
      have d1 : decide ((i : Int) < n) = true := by simp; omega
      obtain ⟨⟨k, on, m, heap, ⟨v0, v1⟩, ⟨y0, y1⟩, cs⟩, B, ln, cp⟩ := x
      dsimp only at e0 e1 e2 e3 e4 e5 e6 e7 e8
      obtain ⟨o, ho⟩ : ∃ o : POp, o = ⟨k, on, m, heap, (v0, v1), (y0, y1), cs⟩ := ⟨_, rfl⟩
      have HL := Lib.hid (HZ.out.lim (by omega))
      have HC1 := Lib.hid (fun W (f : Fresh w W) (hW : Own w W p la M) => one_all hW o B ln cp (by rw [ho]; exact HIL.out.1.alloc f) HIL.out.2 HD.out HL.out.1 HL.out.2.1 HL.out.2.2)
      have HC2 := Lib.hid (fun W (f : Fresh w W) (hW : Own w W q lb M) => one_all hW o B ln cp (by rw [ho]; exact HIL.out.1.alloc f) HIL.out.2 HD.out HL.out.1 HL.out.2.1 HL.out.2.2)
      have HO := Lib.hid ho
      have HZ1 := Lib.hid (HZ.out.one o)
      have HD1 := Lib.hid (Dom.one HD.out o)
      have HR := Lib.hid (fun h => refused M o h)
      obtain ⟨hn0, hn1⟩ := oneN_le HZ.out o
      generalize M.oneM o = M2 at *
      generalize M.oneN o = na at *
      generalize M.oneE o = ea at *
      generalize M.oneV o = va at *
      obtain ⟨va0, va1⟩ := va
      obtain ⟨nz, rfl⟩ : ∃ nz : Nat, na = nz := ⟨na.toNat, by omega⟩
      clear ho
      go_wp2_with fail
      have hc := HC1.out _ HT.out.one.fresh HT.out.one
      rw [HO.out] at hc
      refine hc.mono ?_
      clear hc
      rintro e w5 ⟨A5, C5, ss, l5, rfl, g1, g2, L5, O5, X5⟩
      have HT5 := Lib.hid (HT.out.left O5 X5)
      have HL5 := Lib.hid (And.intro g1 (And.intro g2 L5))
      clear O5 X5 e0 e1 e2 e3 e4 e5 e6 e7 e8 g1 g2 L5
      by_cases he : ea = 0
      · subst he
        obtain ⟨e0, e1, e2, e3, e4, e5, e6, e7, e8⟩ := HE.out
        have F := HT5.out.one.fresh
        rw [← Fresh.cel F (p := ⟨bb, _, none⟩) hb] at e0 e1 e2 e3 e4 e5 e6 e7 e8
        have hbw := Nat.lt_of_lt_of_le hb F.size
        clear F
        go_wp2_with fail
        have hc := HC2.out _ (HT5.out.two.fresh.alloc (.cells #[.int .i64 va0, .int .i64 va1] 32)) (HT5.out.two.alloc (.cells #[.int .i64 va0, .int .i64 va1] 32))
        rw [HO.out] at hc
        refine hc.mono ?_
        clear hc e0 e1 e2 e3 e4 e5 e6 e7 e8 hbw
        rintro e w6 ⟨A6, C6, s6, l6, rfl, g1, g2, L6, O6, X6⟩
        have hss : s6 = ss := by
          by_cases h9 : k = 9
          · exact (g1 h9).eq (HL5.out.1 h9)
          · rw [g2 h9, HL5.out.2.1 h9]
        subst hss
        have HT6 := Lib.hid ((HT5.out.keep (alloc_fresh _ _)).right O6 X6)
        have L5 := ((HL5.out.2.2.other HT.out.two.old).fresh (alloc_fresh _ (.cells #[.int .i64 va0, .int .i64 va1] 32))).ext X6
        have HLN := Lib.hid L6.len
        have HI5 := Lib.hid L5.ints.2
        have HI6 := Lib.hid L6.ints.2
        have hb6 := X6.blk (HT5.out.two.out_new (.cells #[.int .i64 va0, .int .i64 va1] 32)) (new_blk _)
        have HB6 := Lib.hid hb6
        clear g1 g2 L6 O6 X6 L5 hb6
        go_wp2_with fail
        refine (eqInts_same _ A5 A6 _ C5 C6 s6 (HI5.out.alloc (alloc_fresh _ _)) (HI6.out.alloc (alloc_fresh _ _)) HLN.out).mono ?_
        rintro e w7 ⟨rfl, F7⟩
        have HT7 := Lib.hid ((HT6.out.keep (alloc_fresh _ _)).keep F7)
        have hq := F7.cell (blk_alloc HB6.out _)
        have hr := F7.cell (new_blk _)
        have q0 : w7.cell? ⟨w5.heap.size, 0, none⟩ = some (.int .i64 va0) := blk_cell hq rfl
        have q1 : w7.cell? ⟨w5.heap.size, 1, none⟩ = some (.int .i64 va1) := blk_cell hq rfl
        have q2 := blk_lt hq
        have q3 : w7.cell? ⟨w6.heap.size, 0, none⟩ = some (.int .i64 va0) := blk_cell hr rfl
        have q4 : w7.cell? ⟨w6.heap.size, 1, none⟩ = some (.int .i64 va1) := blk_cell hr rfl
        have q5 := blk_lt hr
        clear hq hr F7
        by_cases hg : md < nz
        · have d2 : decide ((nz : Int) > md) = true := by simp; omega
          have d3 : decide (md < nz) = true := by simp; omega
          go_wp2_with fail
          go_roundw
          case rel => exact ⟨i + 1, nz, M2, l5, l6, by omega, by omega, rfl, rfl, by go_num, HT7.out, HZ1.out, HD1.out⟩
          case measure => simp [intOf]; omega
        · have d2 : decide ((nz : Int) > md) = false := by simp; omega
          have d3 : decide (md < nz) = false := by simp; omega
          go_wp2_with fail
          go_roundw
          case rel => exact ⟨i + 1, md, M2, l5, l6, by omega, by omega, rfl, rfl, by go_num, HT7.out, HZ1.out, HD1.out⟩
          case measure => simp [intOf]; omega
      · have hb0 : (ea != 0) = true := by simp [he]
        obtain ⟨r1, r2, r3, r4⟩ := HR.out he
        obtain rfl : nz = 0 := by omega
        clear r2
        injection r3 with r3 r5
        subst r3
        subst r5
        obtain rfl : ss = [] := HL5.out.2.1 (by have h := r4; rw [HO.out] at h; exact h)
        have HM2 := Lib.hid r1
        clear r1 r4
        go_wp2_with fail
        go_roundw
        case rel => exact ⟨i + 1, md, M2, l5, lb, by omega, by omega, rfl, rfl, by go_num, by have := HT5.out; rw [HM2.out] at this ⊢; exact this.keep (by repeat (first | exact Only.refl _ _ | refine Only.alloc ?_ _ | refine Only.drew ?_)), HZ1.out, HD1.out⟩
        case measure => simp [intOf]; omega
    · have d1 : decide ((i : Int) < n) = false := by simp; omega
      have hmd9 : md ≤ 1048576 := by omega
      have HLM := Lib.hid (HZ.out.lim (show i ≤ 1048576 by omega))
      clear hi
      go_wp2_with fail
      go_loopw [3, 17] (fun s3 s17 wi => ∃ c : Nat, c ≤ md + 1 ∧ s3 = .bool true ∧ s17 = .int .i64 c ∧ Two w wi p q la lb M M) (fun _ s17 _ => md + 1 - (intOf s17).toNat)
      case atStart => exact ⟨0, by omega, rfl, rfl, by first | exact HT.out | exact HT.out.keep (Only.refl _ _).drew⟩
      case round =>
        clear HT
        obtain ⟨c, hc, rfl, rfl, T⟩ := hrel
        have HT := Lib.hid T
        clear T
        by_cases hcm : c ≤ md
        · have d2 : decide ((c : Int) ≤ md) = true := by simp; omega
          have d3 : decide (c ≤ md) = true := by simp; omega
          go_wp2_with fail
          go_loopw [3, 18] (fun s3 s18 wi => ∃ f : Nat, f ≤ 8 ∧ s3 = .bool true ∧ s18 = .int .i64 f ∧ Two w wi p q la lb M M) (fun _ s18 _ => 8 - (intOf s18).toNat)
          case atStart => exact ⟨0, by omega, rfl, rfl, by first | exact HT.out | exact HT.out.keep (Only.refl _ _).drew⟩
          case round =>
            clear HT
            obtain ⟨f, hf, rfl, rfl, T⟩ := hrel
            have HT := Lib.hid T
            clear T
            by_cases hf8 : f < 8
            · have d4 : decide ((f : Int) < 8) = true := by simp; omega
              have d5 : decide (f < 8) = true := by simp; omega
              have HC1 := Lib.hid (fun W (hW : Own w W p la M) => hW.load (2, (c : Int)) f)
              have HC2 := Lib.hid (fun W (hW : Own w W q lb M) => hW.load (2, (c : Int)) f)
              generalize M.load (2, (c : Int)) f = x at *
              generalize M.err (2, (c : Int)) f = r at *
              obtain ⟨x0, x1⟩ := x
              go_wp2_with fail
              refine (HC1.out _ HT.out.one).mono ?_
              rintro e w5 ⟨rfl, O5, F5⟩
              have HT5 := Lib.hid ((HT.out.keep F5).keep (alloc_fresh _ (.cells #[.int .i64 x0, .int .i64 x1] 32)))
              clear O5 F5
              go_wp2_with fail
              refine (HC2.out _ HT5.out.two).mono ?_
              rintro e w6 ⟨rfl, O6, F6⟩
              have HT6 := Lib.hid ((HT5.out.keep F6).keep (alloc_fresh _ (.cells #[.int .i64 x0, .int .i64 x1] 32)))
              have hq := F6.cell (new_blk _)
              have q0 : w6.cell? ⟨w5.heap.size, 0, none⟩ = some (.int .i64 x0) := blk_cell hq rfl
              have q1 : w6.cell? ⟨w5.heap.size, 1, none⟩ = some (.int .i64 x1) := blk_cell hq rfl
              have q2 := blk_lt hq
              clear O6 F6 hq
              go_wp2_with fail
              go_roundw
              case rel => exact ⟨f + 1, by omega, rfl, by go_num, HT6.out⟩
              case measure => simp [intOf]; omega
            · have d4 : decide ((f : Int) < 8) = false := by simp; omega
              have d5 : decide (f < 8) = false := by simp; omega
              go_wp2_with fail
              go_roundw
              case rel => exact ⟨c + 1, by omega, rfl, by go_num, HT.out⟩
              case measure => simp [intOf]; omega
        · have d2 : decide ((c : Int) ≤ md) = false := by simp; omega
          have d3 : decide (c ≤ md) = false := by simp; omega
          go_wp2_with fail
          go_loopw [3, 23] (fun s3 s23 wi => ∃ f : Nat, f ≤ 2 ∧ s3 = .bool true ∧ s23 = .int .i64 f ∧ Two w wi p q la lb M M) (fun _ s23 _ => 2 - (intOf s23).toNat)
          case atStart => exact ⟨0, by omega, rfl, rfl, by first | exact HT.out | exact HT.out.keep (Only.refl _ _).drew⟩
          case round =>
            clear HT
            obtain ⟨f, hf, rfl, rfl, T⟩ := hrel
            have HT := Lib.hid T
            clear T
            by_cases hf8 : f < 2
            · have d4 : decide ((f : Int) < 2) = true := by simp; omega
              have d5 : decide (f < 2) = true := by simp; omega
              have HC1 := Lib.hid (fun W (hW : Own w W p la M) => hW.global f)
              have HC2 := Lib.hid (fun W (hW : Own w W q lb M) => hW.global f)
              generalize M.global f = x at *
              generalize M.gerr f = r at *
              obtain ⟨x0, x1⟩ := x
              go_wp2_with fail
              refine (HC1.out _ HT.out.one).mono ?_
              rintro e w5 ⟨rfl, O5, F5⟩
              have HT5 := Lib.hid ((HT.out.keep F5).keep (alloc_fresh _ (.cells #[.int .i64 x0, .int .i64 x1] 32)))
              clear O5 F5
              go_wp2_with fail
              refine (HC2.out _ HT5.out.two).mono ?_
              rintro e w6 ⟨rfl, O6, F6⟩
              have HT6 := Lib.hid ((HT5.out.keep F6).keep (alloc_fresh _ (.cells #[.int .i64 x0, .int .i64 x1] 32)))
              have hq := F6.cell (new_blk _)
              have q0 : w6.cell? ⟨w5.heap.size, 0, none⟩ = some (.int .i64 x0) := blk_cell hq rfl
              have q1 : w6.cell? ⟨w5.heap.size, 1, none⟩ = some (.int .i64 x1) := blk_cell hq rfl
              have q2 := blk_lt hq
              clear O6 F6 hq
              go_wp2_with fail
              go_roundw
              case rel => exact ⟨f + 1, by omega, rfl, by go_num, HT6.out⟩
              case measure => simp [intOf]; omega
            · have d4 : decide ((f : Int) < 2) = false := by simp; omega
              have d5 : decide (f < 2) = false := by simp; omega
              go_wp2_with fail
              refine (HT.out.one.live HD.out HLM.out.2.1).mono ?_
              rintro e w5 ⟨A5, C5, ss, rfl, hs, L5, O5, F5⟩
              have HT5 := Lib.hid (HT.out.keep F5)
              have HL5 := Lib.hid (And.intro hs L5)
              clear hs L5 O5 F5
              go_wp2_with fail
              refine (HT5.out.two.live HD.out HLM.out.2.1).mono ?_
              rintro e w6 ⟨A6, C6, s6, rfl, hs, L6, O6, F6⟩
              obtain rfl : s6 = ss := hs.eq HL5.out.1
              have HT6 := Lib.hid (HT5.out.keep F6)
              have HI5 := Lib.hid (HL5.out.2.fresh F6).ints.2
              have HI6 := Lib.hid L6.ints.2
              have HLN := Lib.hid L6.len
              clear hs L6 O6 F6
              go_wp2_with fail
              refine (eqInts_same _ A5 A6 _ C5 C6 s6 HI5.out HI6.out HLN.out).mono ?_
              rintro e w7 ⟨rfl, F7⟩
              have HT7 := Lib.hid (HT6.out.keep F7)
              clear F7
              go_wp2_with fail
              go_ret
              exact ⟨rfl, HT7.out.one.fresh⟩
end Go.Proofs.Ytabfmoedbnpihaa
