/- A step towards HistMany: the walks of Check and of HistMany. No conditions of its own beyond those that its theorems name. -/
import Derived.Test.YtfahoomkpammiaaHManyP
import Derived.Test.YtfahoomkpammiaaHOrd
namespace Go.Proofs.Ytfahoomkpammiaa
open Go.RowKit Go.MapKept Go.Proofs.YtfahoomkpammiaaW.PrintWords Go.Proofs.YtfahoomkpammiaaW.PrintLast Go.Proofs.YtfahoomkpammiaaW.PrintMore Go.Proofs.Ytfahoomkpammiaa.PHistOrders

open Classical in
/-- what Check answers -/
noncomputable def checkP (l0 : List S45) : Int := if readB l0 = none then 230 else 0
set_option maxRecDepth 100000 in
theorem check_walk (w : World) (A : Option Addr) (c : Nat) (l0 : List S45) (hr : Kd.C k45 w A l0.length l0) (hc : l0.length ≤ c) (hl : l0.length ≤ 2147483647) :
    Calls Try.prog 21 #[.slice A l0.length c] w fun e w' => e = .returned (.int .i64 (checkP l0)) ∧ Below w.heap.size w w' := by
  have hrd := read_walk w A c l0 hr hc hl
  have HR := Lib.hid hrd
  clear hr hc hl hrd
  go_enter Try.func21, Try.ntmps21
  go_wp2_with fail
  refine HR.out.mono ?_
  rintro e w1 ⟨hb, v, ok, rfl, hend⟩
  have HB := Lib.hid hb
  cases ok with
  | false =>
    have hno : readB l0 = none := by
      cases q : rat l0 l0.length with
      | none => exact readB_none q
      | some s =>
        rw [q] at hend
        exact readB_no q fun k => by have := hend.2.2 k; cases this
    have hcp : checkP l0 = 230 := if_pos hno
    have HCP := Lib.hid hcp
    clear hb hend hno hcp
    go_wp2_with fail
    go_ret
    exact ⟨by rw [HCP.out]; rfl, HB.out⟩
  | true =>
    have hno : readB l0 ≠ none := by
      cases q : rat l0 l0.length with
      | none => rw [q] at hend; cases hend.2
      | some s => rw [q] at hend; rw [readB_yes q ⟨(hend.2.1 rfl).1, (hend.2.1 rfl).2⟩]; simp
    have hcp : checkP l0 = 0 := if_neg hno
    have HCP := Lib.hid hcp
    clear hb hend hno hcp
    go_wp2_with fail
    go_ret
    exact ⟨by rw [HCP.out]; rfl, HB.out⟩

set_option maxRecDepth 100000 in
set_option maxHeartbeats 1000000 in
theorem many_walk (w : World) (x : Int) : Calls Try.prog 6 #[.int .i64 x] w fun e w' => e = .returned (.bool true) ∧ Below w.heap.size w w' := by
  have h1 := Int.tmod_lt_of_pos x (show (0 : Int) < 9 by omega)
  have h2 : -9 < Int.tmod x 9 := by
    have := Int.tmod_lt_of_pos (-x) (show (0 : Int) < 9 by omega)
    rw [Int.neg_tmod] at this
    omega
  go_enter Try.func6, Try.ntmps6
  go_wp2_with fail
  obtain ⟨N, hN⟩ : ∃ N : Nat, 60 + x.tmod 9 % 9 = (N : Int) := ⟨(60 + x.tmod 9 % 9).toNat, by omega⟩
  rw [hN]
  have n1 : 60 ≤ N := by omega
  have n2 : N ≤ 68 := by omega
  clear hN h1 h2
  generalize (x.tmod 9 + 9) % 9 = y1
  generalize x.tmod 9 + 9 = y2
  obtain ⟨w1, hw1⟩ : ∃ w1, w1 = w.alloc (.cells #[.int .i64 2, .int .i64 3, .string ⟨#[]⟩] 40) := ⟨_, rfl⟩
  rw [← hw1]
  have hs1 : w1.heap.size = w.heap.size + 1 := by rw [hw1]; simp
  have hb1 : Below w.heap.size w w1 := by rw [hw1]; exact below_alloc (Below.refl _ _) _
  have hx1 : w1.heap[w.heap.size]? = some (.cells #[.int .i64 2, .int .i64 3, .string ⟨#[]⟩] 40 (0, 0)) := by rw [hw1]; exact blk_new w _
  have H1 := Lib.hid (And.intro hs1 (And.intro hb1 hx1))
  clear hw1 hs1 hb1 hx1
  go_loopw [3, 5] (fun s3 s5 wr => ∃ i : Nat, i ≤ N ∧ s5 = .int .i64 i ∧ OwnRow (k45.K w) 45 9 wr w1.heap.size s3 (hm1 i) ∧ Below w1.heap.size w1 wr) (fun _ s5 _ => N - (intOf s5).toNat)
  case atStart => exact ⟨0, Nat.zero_le _, rfl, OwnRow.none_ _ _ _ _ _, Below.refl _ _⟩
  case round =>
    obtain ⟨i, hi, rfl, hO, hB⟩ := hrel
    obtain ⟨A3, c3, rfl, h3⟩ := hO.slice_
    have HO := Lib.hid (And.intro hO (And.intro hB h3))
    clear hO hB h3
    have hbx := blk_below H1.out.2.2 HO.out.2.1
    have x0 := blk_cell hbx (i := 0) rfl
    have x1 := blk_cell hbx (i := 1) rfl
    have x2 := blk_cell hbx (i := 2) rfl
    have HX := Lib.hid hbx
    clear hbx
    by_cases hlt : i < N
    · have hlD : decide ((i : Int) < (N : Int)) = true := by simp; omega
      go_wp2_with (refine OwnRow.append (w0 := w1) w1.heap.size rfl (.tmp 22) (.tmp 26) 22 45 _ 9 120 rfl Try.underlying22 info45 rfl (by decide) (by decide) _ (hm1 i) (hmB i) _ rfl rfl (k45_mk w (hmB i) (A7 := none) (c7 := 0) (Nat.le_refl _) (Kd.C_nil _ _) (A8 := none) (c8 := 0) (Nat.le_refl _) (Kd.C_nil _ _)) rfl (by intro u hu; simp at hu; rcases hu with rfl | rfl | rfl | rfl | rfl | rfl | rfl | rfl | rfl <;> rfl) HO.out.1 HO.out.2.1 HO.out.2.1.size (by simp [hm1]; omega) ?_; intro v1 w3 hO3 hB3 hg3 hat3; have HO3 := Lib.hid (And.intro hO3 hB3); clear hO3 hB3 hg3 hat3)
      go_roundw
      case rel => exact ⟨i + 1, by omega, by go_num, by rw [hm1_succ]; exact HO3.out.1, HO3.out.2⟩
      case measure => simp [intOf]; omega
    · obtain rfl : i = N := by omega
      have hlD : decide ((i : Int) < (i : Int)) = false := by simp
      go_wp2_with fail
      obtain ⟨wo, rfl⟩ : ∃ wo : World, wo = wr := ⟨_, rfl⟩
      clear x0 x1 x2
      go_loopw [3, 6] (fun s3 s6 wr => ∃ k : Nat, k ≤ i ∧ s6 = .int .i64 k ∧ OwnRow (k45.K w) 45 9 wr w1.heap.size s3 (hm1 i ++ hm2 k) ∧ Below w1.heap.size w1 wr) (fun _ s6 _ => i - (intOf s6).toNat)
      case atStart => exact ⟨0, Nat.zero_le _, rfl, by simpa [hm2] using HO.out.1, HO.out.2.1⟩
      case round =>
        obtain ⟨k, hk, rfl, hO, hB⟩ := hrel
        obtain ⟨A4, c4, rfl, h4⟩ := hO.slice_
        have HP := Lib.hid (And.intro hO (And.intro hB h4))
        clear hO hB h4
        have hbx := blk_below H1.out.2.2 HP.out.2.1
        have x0 := blk_cell hbx (i := 0) rfl
        have x1 := blk_cell hbx (i := 1) rfl
        have x2 := blk_cell hbx (i := 2) rfl
        clear hbx
        by_cases hlt2 : k < i
        · have hlD2 : decide ((k : Int) < (i : Int)) = true := by simp; omega
          go_wp2_with (refine OwnRow.append (w0 := w1) w1.heap.size rfl (.tmp 33) (.tmp 37) 22 45 _ 9 120 rfl Try.underlying22 info45 rfl (by decide) (by decide) _ (hm1 i ++ hm2 k) (hmE k) _ rfl rfl (k45_mk w (hmE k) (A7 := none) (c7 := 0) (Nat.le_refl _) (Kd.C_nil _ _) (A8 := none) (c8 := 0) (Nat.le_refl _) (Kd.C_nil _ _)) rfl (by intro u hu; simp at hu; rcases hu with rfl | rfl | rfl | rfl | rfl | rfl | rfl | rfl | rfl <;> rfl) HP.out.1 HP.out.2.1 HP.out.2.1.size (by simp [hm1, hm2]; omega) ?_; intro v1 w3 hO3 hB3 hg3 hat3; have HO3 := Lib.hid (And.intro hO3 hB3); clear hO3 hB3 hg3 hat3)
          go_roundw
          case rel => exact ⟨k + 1, by omega, by go_num, by rw [hm2_succ, ← List.append_assoc]; exact HO3.out.1, HO3.out.2⟩
          case measure => simp [intOf]; omega
        · obtain rfl : k = i := by omega
          have hlD2 : decide ((k : Int) < (k : Int)) = false := by simp
          clear x0 x1 x2
          have hbw : Below w.heap.size w wr := below_step H1.out.2.1 HP.out.2.1
          have hO : OwnRow (k45.K w) 45 9 wr w1.heap.size (.slice A4 (hm k).length c4) (hm k) := HP.out.1
          obtain ⟨A5, c5, he5, hcap, hC⟩ := (hO.imp_ (fun _ _ => k45.K_below hbw)).reads
          injection he5 with e1 _ e2
          subst e1
          subst e2
          have hlen : (hm1 k ++ hm2 k).length = (hm k).length := rfl
          rw [hlen]
          have HC := Lib.hid (And.intro hcap (And.intro hC hbw))
          have hl2 : (hm k).length ≤ 2147483647 := by rw [hm_len]; omega
          have HL2 := Lib.hid hl2
          clear hcap hC hbw hO hlen hl2
          by_cases h64 : k ≤ 64
          · have hcp : checkP (hm k) = 0 := if_neg (by rw [hm_read k h64]; simp)
            have hchk := check_walk wr A4 c4 (hm k) HC.out.2.1 HC.out.1 HL2.out
            rw [hcp] at hchk
            clear hcp
            go_wp2_with fail
            refine hchk.mono ?_
            rintro e w4 ⟨rfl, hb4⟩
            have H4 := Lib.hid hb4
            clear hb4 hchk
            go_wp2_with fail
            refine (order_walk w4 A4 c4 (hm k) (Kd.C_below HC.out.2.1 H4.out) HC.out.1 HL2.out).mono ?_
            rintro e w5 ⟨v, b, x5, rfl, hb5, ho5⟩
            rw [hm_ord k h64] at ho5
            obtain ⟨h6, rfl, rfl⟩ := ho5
            have hll : ((List.range k).map fun j : Nat => (j : Int)).length = k := by simp
            rw [hll] at h6
            obtain ⟨g6, c6, rfl, x6, _, _⟩ := own_cell h6 (i := k - 1) (x := .int .i64 ((k - 1 : Nat) : Int)) (by simp [i64s, List.getElem?_range (show k - 1 < k by omega)])
            have H5 := Lib.hid (And.intro hb5 h6)
            clear hb5 h6 hll
            have hsub : ((k - 1 : Nat) : Int) = (k : Int) - 1 := by omega
            rw [hsub] at x6
            have hkt : ((k : Int) - 1).toNat = k - 1 := by omega
            have hk0 : (0 : Int) ≤ (k : Int) - 1 := by omega
            have hk1 : (k : Int) - 1 < (k : Int) := by omega
            have hgt : decide ((64 : Int) < (k : Int)) = false := by simp; omega
            clear hsub
            go_wp2_with fail
            go_ret
            exact ⟨rfl, below_step (below_step HC.out.2.2 H4.out) H5.out.1⟩
          · have hcp : checkP (hm k) = 230 := if_pos (hm_refused k (by omega))
            have hchk := check_walk wr A4 c4 (hm k) HC.out.2.1 HC.out.1 HL2.out
            rw [hcp] at hchk
            clear hcp
            go_wp2_with fail
            refine hchk.mono ?_
            rintro e w4 ⟨rfl, hb4⟩
            have H4 := Lib.hid hb4
            clear hb4 hchk
            go_wp2_with fail
            refine (order_walk w4 A4 c4 (hm k) (Kd.C_below HC.out.2.1 H4.out) HC.out.1 HL2.out).mono ?_
            rintro e w5 ⟨v, b, x5, rfl, hb5, ho5⟩
            rw [hm_ord_no k (by omega)] at ho5
            obtain ⟨rfl, rfl, rfl⟩ := ho5
            have H5 := Lib.hid hb5
            clear hb5
            have hgt : decide ((64 : Int) < (k : Int)) = true := by simp; omega
            go_wp2_with fail
            go_ret
            exact ⟨rfl, below_step (below_step HC.out.2.2 H4.out) H5.out⟩
end Go.Proofs.Ytfahoomkpammiaa
