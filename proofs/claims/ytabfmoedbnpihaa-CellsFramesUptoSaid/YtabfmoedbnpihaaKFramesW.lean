/- A step towards the laws on the cells of a run: the walk of CellsFrames. No conditions of its own beyond those that its theorems name. -/
import Derived.Test.YtabfmoedbnpihaaKFrames
import Derived.Test.YtabfmoedbnpihaaKPlaces
namespace Go.Proofs.Ytabfmoedbnpihaa
open Go.RowKit Go.MapKept

/-- a list of numbers of one's own, outside the memory -/
def Marks (w wr : World) (lab : Lab) (v : Value) (l : List Int) : Prop :=
  wr.ownsRow 0 3 1 v l.length (l.map (Value.int .i64)) ∧ ∀ g, v.ownBlock = some g → lab g = none ∧ w.heap.size ≤ g
theorem Marks.fresh {w wr w1 : World} {lab : Lab} {v : Value} {l : List Int} (h : Marks w wr lab v l) (f : Fresh wr w1) : Marks w w1 lab v l := ⟨f.row h.1 fun _ _ q => q, h.2⟩
theorem Marks.ext {w wr w1 : World} {lab lab1 : Lab} {v : Value} {l : List Int} (h : Marks w wr lab v l) (x : Ext wr w1 lab lab1) : Marks w w1 lab1 v l := by
  refine ⟨x.only.row h.1 fun g hg q => q (h.2 g hg).1, fun g hg => ⟨?_, (h.2 g hg).2⟩⟩
  exact (x.out (b := g) ⟨(h.2 g hg).1, own_lt h.1 hg⟩).1

theorem Own.grown {w wr w4 : World} {p : Nat} {lab : Lab} {M : PM} {v : Value} (h : Own w wr p lab M) (hg : wr.grownBy w4 v.ownBlock) (hv : ∀ g, v.ownBlock = some g → lab g = none ∧ w.heap.size ≤ g) : Own w w4 p lab M :=
  ⟨h.mem.only (S := fun b => v.ownBlock = some b) (Only.of_grown hg fun _ e => e) fun b hb e => hb (hv b e).1, h.new, h.fresh.grown hg fun g e => .inr (hv g e).2⟩
theorem Marks.app {w wr w4 : World} {lab : Lab} {v : Value} {l : List Int} {A : Option Addr} {C : Nat} {x : Int} (h : Marks w wr lab v l) (hown : w4.ownsRow 0 3 1 (.slice A (l.length + 1) C) (l.length + 1) (l.map (Value.int .i64) ++ [.int .i64 x]))
    (hat : A.map Addr.block = v.ownBlock ∨ A.map Addr.block = some wr.heap.size) (ho : ∀ b, lab b ≠ none → b < wr.heap.size) (hs : w.heap.size ≤ wr.heap.size) : Marks w w4 lab (.slice A (l.length + 1) C) (l ++ [x]) := by
  refine ⟨by simpa using hown, fun g hg => ?_⟩
  rw [own_map] at hg
  rcases hat with q | q
  · exact h.2 g (by rw [← q, hg])
  · rw [q] at hg
    injection hg with hg
    subst hg
    exact ⟨Decidable.byContradiction fun k => by have := ho _ k; omega, hs⟩
def tot (H F : Nat → Nat) (i : Nat) : Nat := sumTo (fun j => H j + F j) i
def marksTo (H F : Nat → Nat) (i : Nat) : List Int := (List.range i).map fun j => ((tot H F (j + 1) : Nat) : Int)
theorem tot_le {H F : Nat → Nat} (h : ∀ i, H i ≤ 4) (f : ∀ i, F i ≤ 4) (i : Nat) : tot H F i ≤ i * 8 := sumTo_le (fun j => by have := h j; have := f j; omega) i
theorem frs_lt {F : Nat → Nat} {i a : Nat} (f : ∀ i, F i ≤ 4) (ha : a < Lim) : ∀ b ∈ (List.range i).map F ++ [a], b < Lim := fun b hb => by
  rcases List.mem_append.1 hb with h | h
  · obtain ⟨j, _, rfl⟩ := List.mem_map.1 h
    have := f j
    unfold Lim
    omega
  · simp at h
    subst h
    exact ha
theorem sumTo_mono (g : Nat → Nat) {i j : Nat} (h : i ≤ j) : sumTo g i ≤ sumTo g j := by
  induction h with
  | refl => exact Nat.le_refl _
  | step _ ih => exact Nat.le_trans ih (by rw [sumTo]; omega)
theorem tot_succ (H F : Nat → Nat) (i : Nat) : tot H F (i + 1) = tot H F i + (H i + F i) := rfl
/-- behind the end of the frames from j on -/
def FRel2 (w : World) (p : Nat) (H F : Nat → Nat) (n : Nat) (u8 s5 s15 : Value) (wr : World) : Prop :=
  ∃ (j : Nat) (M : PM) (lab : Lab), j ≤ n ∧ s5 = .bool true ∧ s15 = .int .i64 ((j : Int) - 1) ∧ Own w wr p lab M ∧ FInv M ((List.range j).map F) (tot H F j + (sumTo H n - sumTo H j)) (tot H F n) ∧ Marks w wr lab u8 (marksTo H F n)
/-- so many are wanted: those of the frames below, and those on the heap of the frames from j to k -/
def FRel3 (w5 : World) (H F : Nat → Nat) (n j : Nat) (s18 s19 : Value) (wi : World) : Prop :=
  ∃ k : Nat, j ≤ k ∧ k ≤ n ∧ s18 = .int .i64 (tot H F j + (sumTo H k - sumTo H j) : Nat) ∧ s19 = .int .i64 k ∧ Fresh w5 wi
/-- ahead of the i-th frame -/
def FRel (w : World) (p : Nat) (H F : Nat → Nat) (n : Nat) (s6 s7 s8 : Value) (wr : World) : Prop :=
  ∃ (i : Nat) (M : PM) (lab : Lab), i ≤ n ∧ s7 = .int .i64 (tot H F i) ∧ s8 = .int .i64 i ∧ Own w wr p lab M ∧ FInv M ((List.range i).map F) (tot H F i) (tot H F i) ∧ Marks w wr lab s6 (marksTo H F i)

set_option maxRecDepth 200000 in
set_option maxHeartbeats 1000000 in
theorem frames_walk (w : World) (A B : Option Addr) (na nb CA CB : Nat) (xs ys : List Int) (hx : Ints w A na xs) (hy : Ints w B nb ys) (n : Nat) (hn : (if nb < na then nb else na) = n) (hl : n ≤ 1048576) (ha : na ≤ 9223372036854775807) (hb : nb ≤ 9223372036854775807)
    (H F : Nat → Nat) (hH : ∀ (i : Nat) (x : Int), xs[i]? = some x → x % 5 = H i) (hF : ∀ (i : Nat) (x : Int), ys[i]? = some x → x % 5 = F i) (hH4 : ∀ i, H i ≤ 4) (hF4 : ∀ i, F i ≤ 4) :
    Calls Try.prog 4 #[.slice A na CA, .slice B nb CB] w fun e w' => e = .returned (.bool true) ∧ Fresh w w' := by
  have HX := Lib.hid hx
  have HY := Lib.hid hy
  have HN := Lib.hid hn
  have HHH := Lib.hid (And.intro hH (And.intro hF (And.intro hH4 hF4)))
  clear hx hy hH hF hH4 hF4
  go_enter Try.func4, Try.ntmps4
  go_wp2_with fail
  refine (fixed_any w).mono ?_
  rintro e w0 ⟨rfl, F0⟩
  have HF0 := Lib.hid F0
  clear F0
  go_wp2_with fail
  refine (own_new w w0 HF0.out 1).mono ?_
  rintro e w1 ⟨p, la, rfl, Oa, _, _⟩
  have HA := Lib.hid Oa
  clear Oa
  have HNA := Lib.hid (show n ≤ na by rw [← hn]; split <;> omega)
  have HNB := Lib.hid (show n ≤ nb by rw [← hn]; split <;> omega)
  clear HN
  by_cases hlt : nb < na
  · rw [if_pos hlt] at hn
    have d0 : decide (nb < na) = true := by simp; omega
    replace hn := hn.symm
    subst hn
    clear hlt
    go_wp2_with fail
    go_loopw [8, 9, 10] (fun s6 s7 s8 wr => FRel w p H F n s6 s7 s8 wr) (fun _ _ s8 _ => n - (intOf s8).toNat)
    case atStart => exact ⟨0, _, la, Nat.zero_le _, rfl, rfl, HA.out, FInv.start _, World.ownsRow_nil _ _ _ _, fun g hg => by simp [Value.ownBlock] at hg⟩
    case round =>
      obtain ⟨i, M, lab, hi, rfl, rfl, O, I, K⟩ := hrel
      have HO := Lib.hid O
      have HI := Lib.hid I
      have HK := Lib.hid K
      clear O I K HA
      by_cases hlt : i < n
      · go_wp2_with fail
        refine (Own.push HO.out (by rw [HI.out.frames]; simp; unfold Lim; omega)).mono ?_
        rintro e w2 ⟨rfl, l2, O2, X2⟩
        have HO2 := Lib.hid O2
        have HK2 := Lib.hid (HK.out.ext X2)
        have HI2 := Lib.hid HI.out.push
        clear O2 X2 HK HI HO
        go_wp2_with fail
        have hia := Nat.lt_of_lt_of_le hlt HNA.out
        have hib := Nat.lt_of_lt_of_le hlt HNB.out
        obtain ⟨x, hx⟩ : ∃ x, xs[i]? = some x := ⟨xs[i]'(by have := HX.out.1; have := HNA.out; omega), List.getElem?_eq_getElem _⟩
        obtain ⟨y, hy⟩ : ∃ y, ys[i]? = some y := ⟨ys[i]'(by have := HY.out.1; have := HNB.out; omega), List.getElem?_eq_getElem _⟩
        obtain ⟨ba, oa, rfl, hba, ea⟩ := HX.out.2 i x hx
        obtain ⟨bb, ob, rfl, hbb, eb⟩ := HY.out.2 i y hy
        have hzx := HHH.out.1 i x hx
        have hzy := HHH.out.2.1 i y hy
        have hz4 := HHH.out.2.2.1 i
        have hf4 := HHH.out.2.2.2 i
        have HEQ := Lib.hid (And.intro hzx hzy)
        clear hx hy hzx hzy
        go_loopw [9, 12] (fun s9 s12 wi => ∃ (k : Nat) (M : PM) (lab : Lab), k ≤ H i + F i ∧ s9 = .int .i64 (tot H F i + k : Nat) ∧ s12 = .int .i64 k ∧ Own w wi p lab M ∧ FInv M ((List.range i).map F ++ [k - H i]) (tot H F i + k) (tot H F i + k) ∧ Marks w wi lab u8 (marksTo H F i)) (fun _ s12 _ => H i + F i - (intOf s12).toNat)
        case atStart => exact ⟨0, _, l2, Nat.zero_le _, rfl, rfl, HO2.out, by simpa using HI2.out, HK2.out⟩
        case round =>
          clear HO2 HI2 HK2
          obtain ⟨k, M, lab, hk, rfl, rfl, O, I, K⟩ := hrel
          have HO := Lib.hid O
          have HI := Lib.hid I
          have HK := Lib.hid K
          have ca : wr.cell? ⟨ba, oa + i, none⟩ = some (.int .i64 x) := (Fresh.cel O.fresh (p := ⟨ba, _, none⟩) hba).trans ea
          have cb : wr.cell? ⟨bb, ob + i, none⟩ = some (.int .i64 y) := (Fresh.cel O.fresh (p := ⟨bb, _, none⟩) hbb).trans eb
          clear O I K
          obtain ⟨hz, hhz⟩ : ∃ z : Int, z = (H i : Nat) := ⟨_, rfl⟩
          obtain ⟨fz, hfz⟩ : ∃ z : Int, z = (F i : Nat) := ⟨_, rfl⟩
          have hc1 := fun W => (mod_any W x 5 (by omega) (by omega)).mono (R' := fun e w' => e = .returned (.int .i64 hz) ∧ w' = W) fun _ _ h => ⟨by rw [h.1, HEQ.out.1, hhz], h.2.symm⟩
          have hc2 := fun W => (mod_any W y 5 (by omega) (by omega)).mono (R' := fun e w' => e = .returned (.int .i64 fz) ∧ w' = W) fun _ _ h => ⟨by rw [h.1, HEQ.out.2, hfz], h.2.symm⟩
          have HC1 := Lib.hid hc1
          have HC2 := Lib.hid hc2
          have hww : IntKind.i64.wrap (hz + fz) = hz + fz := IntWalk.i64_in _ (by omega)
          have HZ := Lib.hid (And.intro hhz hfz)
          have hz0 : 0 ≤ hz := by omega
          have hz9 : hz ≤ 4 := by omega
          by_cases hkl : k < H i + F i
          · have d1 : decide ((k : Int) < hz + fz) = true := by simp; omega
            clear hc1 hc2 hhz hfz
            go_wp2_with fail
            refine wp_region_still_lit (by kernel_rfl) (by kernel_rfl) ?_
            repeat still_step
            still_call (HC1.out _)
            repeat still_step
            still_call (HC2.out _)
            repeat still_step
            refine wpStill_nil ?_
            go_wp2_with fail
            refine (HC1.out _).mono ?_
            rintro e w3 ⟨rfl, rfl⟩
            go_wp2_with fail
            obtain ⟨m1, m2, m3⟩ := HI.out.make (1 + (k : Int) % 8) (decide ((k : Int) < hz)) (by omega) (by omega)
            have hT := tot_le HHH.out.2.2.1 HHH.out.2.2.2 i
            have h := Own.make (HO.out.keep (Only.refl _ _).drew) (1 + (k : Int) % 8) (decide ((k : Int) < hz)) (by rw [HI.out.frames]; simp; unfold Lim; omega) (by rw [HI.out.made]; unfold Lim; omega) (HI.out.each (frs_lt HHH.out.2.2.2 (by unfold Lim; omega)))
            have e1 : M.mkN (1 + (k : Int) % 8) = (tot H F i : Int) + k + 1 := by rw [m2]; push_cast; rfl
            rw [e1, m1] at h
            have HI3 := Lib.hid m3
            refine h.mono ?_
            have hT8 : tot H F i ≤ 8388608 := by omega
            clear h m1 m2 m3 e1 hT
            rintro e w3 ⟨rfl, l3, O3, X3⟩
            have HO3 := Lib.hid O3
            have HK3 := Lib.hid ((HK.out.fresh (Only.refl _ _).drew).ext X3)
            clear O3 X3
            go_wp2_with fail
            go_roundw
            case rel =>
              refine ⟨k + 1, _, l3, by omega, by go_num, by go_num, HO3.out, ?_, HK3.out⟩
              have e2 : (k - H i) + (if decide ((k : Int) < hz) = true then 0 else 1) = k + 1 - H i := by
                have := HZ.out.1
                by_cases hq : (k : Int) < hz
                · simp [hq]; omega
                · simp [hq]; omega
              rw [← e2]
              exact HI3.out
            case measure => simp [intOf]; omega
          · have d1 : decide ((k : Int) < hz + fz) = false := by simp; omega
            have HKE := Lib.hid (show k = H i + F i by omega)
            obtain ⟨i0, hin, hz0', hz1', hz2'⟩ := info_parts infoInt
            have hlen : (marksTo H F i).length = i := by simp [marksTo]
            clear hc1 hc2 hhz hfz
            go_wp2_with fail
            refine wp_region_still_lit (by kernel_rfl) (by kernel_rfl) ?_
            repeat still_step
            still_call (HC1.out _)
            repeat still_step
            still_call (HC2.out _)
            repeat still_step
            refine wpStill_nil ?_
            have HLN := Lib.hid hlen
            have HIN := Lib.hid (And.intro hin (And.intro hz0' (And.intro hz1' hz2')))
            clear hlen hin hz0' hz1' hz2'
            go_wp2_with (at_builtin; go_must (refine wpl_app _ rfl _ _ 39 rfl 0 3 i0 (.int .i64 0) 1 8 Try.underlying39 HIN.out.1 HIN.out.2.1 HIN.out.2.2.1 HIN.out.2.2.2 rfl (by decide) u8 _ _ rfl (((HK.out.fresh (Only.refl _ _).drew).fresh (alloc_fresh _ _)).1) wr.heap.size 1 1 [.int .i64 ((tot H F i : Int) + k)] 3 (0, 0) rfl (new_blk _) rfl (by simp [Value.oneCell']) (by rw [HLN.out]; unfold maxLen; omega) (by rw [HLN.out]; omega) (Nat.zero_le _) ?_); intro A4 C4 w4 hown hgrow hat; have HW := Lib.hid (And.intro hown (And.intro hgrow hat)); clear hown hgrow hat)
            go_roundw
            case rel =>
              have hk' := HKE.out
              refine ⟨i + 1, M, lab, by omega, ?_, by go_num, ?_, ?_, ?_⟩
              · rw [tot_succ, ← hk']
                go_num
              · exact (((HO.out.keep (Only.refl _ _).drew).keep (alloc_fresh _ _))).grown HW.out.2.1 HK.out.2
              · rw [List.range_succ, List.map_append, tot_succ, ← hk']
                have e3 : k - H i = F i := by omega
                have := HI.out
                rw [e3] at this
                exact this
              · have hm : marksTo H F (i + 1) = marksTo H F i ++ [(tot H F i : Int) + k] := by
                  unfold marksTo
                  rw [List.range_succ, List.map_append, List.map_cons, List.map_nil, tot_succ, ← hk']
                  push_cast
                  rfl
                rw [hm]
                exact ((HK.out.fresh (Only.refl _ _).drew).fresh (alloc_fresh _ _)).app HW.out.1 HW.out.2.2 (fun b hb => Nat.lt_of_lt_of_le (HO.out.old b hb) (by simp)) (Nat.le_trans HO.out.size (by simp))
            case measure => simp [intOf]; omega
      · obtain rfl : i = n := by omega
        clear hi hlt
        go_wp2_with fail
        go_loopw [5, 15] (fun s5 s15 wr => FRel2 w p H F i u8 s5 s15 wr) (fun _ s15 _ => (intOf s15 + 1).toNat)
        case atStart => exact ⟨i, M, lab, Nat.le_refl _, rfl, rfl, HO.out, by simpa using HI.out, HK.out⟩
        case round =>
          clear HO HI HK
          obtain ⟨j, M, lab, hj, rfl, rfl, O, I, K⟩ := hrel
          have HO := Lib.hid O
          have HI := Lib.hid I
          have HK := Lib.hid K
          clear O I K
          cases j with
          | zero =>
            go_wp2_with fail
            have h := HO.out.pop (by rw [HI.out.frames]; simp; unfold Lim; omega) (HI.out.each (fun a ha => by simp at ha))
            have hpe : M.popErr = 30 := FInv.none (c := tot H F 0 + (sumTo H i - sumTo H 0)) (m := tot H F i) (by simpa using HI.out)
            rw [hpe] at h
            refine h.mono ?_
            clear h hpe
            rintro e w5 ⟨rfl, l5, O5, X5⟩
            have HO5 := Lib.hid O5
            clear O5 X5
            go_wp2_with fail
            go_ret
            exact ⟨rfl, HO5.out.fresh⟩
          | succ j =>
            rw [show ((j + 1 : Nat) : Int) - 1 = (j : Int) by omega]
            go_wp2_with fail
            have hI := HI.out
            rw [List.range_succ, List.map_append, List.map_cons, List.map_nil] at hI
            obtain ⟨p1, p2, p3⟩ := hI.pop
            have h := HO.out.pop (by rw [HI.out.frames]; simp; unfold Lim; omega) (HI.out.each (fun a ha => by
              obtain ⟨q, _, rfl⟩ := List.mem_map.1 ha
              have := HHH.out.2.2.2 q
              unfold Lim
              omega))
            rw [p1] at h
            have HI5 := Lib.hid p3
            refine h.mono ?_
            clear h p1 p2 p3 hI
            rintro e w5 ⟨rfl, l5, O5, X5⟩
            have HO5 := Lib.hid O5
            have HK5 := Lib.hid (HK.out.ext X5)
            clear O5 X5 HO HK
            have hml : (marksTo H F i).length = i := by simp [marksTo]
            by_cases hj0 : 0 < j
            · have hmc : ((marksTo H F i).map (Value.int .i64))[j - 1]? = some (.int .i64 (tot H F j : Nat)) := by
                rw [List.getElem?_map]
                unfold marksTo
                rw [List.getElem?_map, List.getElem?_range (by omega)]
                simp only [Option.map_some]
                rw [Nat.sub_add_cancel hj0]
              obtain ⟨g, c, rfl, hgc, _, _⟩ := own_cell HK5.out.1 hmc
              have hL0 : (0 : Int) ≤ (j : Int) - 1 := by omega
              have hL1 : (j : Int) - 1 < ((marksTo H F i).length : Int) := by rw [hml]; omega
              have hL2 : j - 1 < (marksTo H F i).length := by rw [hml]; omega
              have hL3 : ((j : Int) - 1).toNat < (marksTo H F i).length := by rw [hml]; omega
              have HML := Lib.hid hml
              clear hml
              have d2 : decide ((j : Int) > 0) = true := by simp; omega
              have d3 : decide (0 < j) = true := by simp; omega
              clear hmc
              go_wp2_with fail
              go_loopw [18, 19] (fun s18 s19 wi => FRel3 w5 H F i j s18 s19 wi) (fun _ s19 _ => i - (intOf s19).toNat)
              case atStart => exact ⟨j, Nat.le_refl _, by omega, by simp, rfl, Only.refl _ _⟩
              case round =>
                obtain ⟨k, hjk, hki, rfl, rfl, hfi⟩ := hrel
                have HFI := Lib.hid hfi
                clear hfi
                by_cases hk : k < i
                · obtain ⟨x, hx⟩ : ∃ x, xs[k]? = some x := ⟨xs[k]'(by have := HX.out.1; have := HNA.out; omega), List.getElem?_eq_getElem _⟩
                  obtain ⟨ba, oa, rfl, hba, ea⟩ := HX.out.2 k x hx
                  have hzx := HHH.out.1 k x hx
                  have ca : wr.cell? ⟨ba, oa + k, none⟩ = some (.int .i64 x) := (Fresh.cel (HO5.out.fresh.trans' HFI.out) (p := ⟨ba, _, none⟩) hba).trans ea
                  have hc1 := fun W => (mod_any W x 5 (by omega) (by omega)).mono (R' := fun e w' => e = .returned (.int .i64 (H k : Nat)) ∧ w' = W) fun _ _ h => ⟨by rw [h.1, hzx], h.2.symm⟩
                  have HC1 := Lib.hid hc1
                  have hka := Nat.lt_of_lt_of_le hk HNA.out
                  clear hx hzx hc1
                  have hmn := sumTo_mono H hjk
                  have hZ : tot H F j + (sumTo H k - sumTo H j) ≤ 16777216 := by
                    have h1 := tot_le HHH.out.2.2.1 HHH.out.2.2.2 j
                    have h2 := sumTo_le HHH.out.2.2.1 k
                    omega
                  have hk4 := HHH.out.2.2.1 k
                  obtain ⟨Z, hZe⟩ : ∃ Z : Nat, Z = tot H F j + (sumTo H k - sumTo H j) := ⟨_, rfl⟩
                  rw [← hZe] at hZ ⊢
                  have HM := Lib.hid (And.intro hmn hZe)
                  clear hmn hZe
                  go_wp2_with fail
                  refine (HC1.out _).mono ?_
                  rintro e w6 ⟨rfl, rfl⟩
                  go_wp2_with fail
                  go_roundw
                  case rel =>
                    refine ⟨k + 1, by omega, by omega, ?_, by go_num, HFI.out⟩
                    have h1 := HM.out.1
                    have h2 := HM.out.2
                    have h3 : sumTo H (k + 1) = sumTo H k + H k := rfl
                    congr 1
                    omega
                  case measure => simp [intOf]; omega
                · obtain rfl : k = i := by omega
                  have hcc : tot H F (j + 1) + (sumTo H k - sumTo H (j + 1)) - F j = tot H F j + (sumTo H k - sumTo H j) := by
                    have h1 := tot_succ H F j
                    have h2 : sumTo H (j + 1) = sumTo H j + H j := rfl
                    have h3 := sumTo_mono H hj
                    omega
                  have HIc := Lib.hid (show FInv _ _ _ _ from hcc ▸ HI5.out)
                  have HT8 := Lib.hid (tot_le HHH.out.2.2.1 HHH.out.2.2.2 k)
                  obtain ⟨Z, hZe⟩ : ∃ Z : Nat, Z = tot H F j + (sumTo H k - sumTo H j) := ⟨_, rfl⟩
                  rw [← hZe]
                  have HZE := Lib.hid hZe
                  clear hcc hZe
                  go_wp2_with fail
                  refine (live_any (HO5.out.keep HFI.out).mem HIc.out.dom (by rw [HIc.out.made]; have := HT8.out; unfold Lim; omega)).mono ?_
                  rintro e w6 ⟨v, ss, rfl, hs, hrow, hf⟩
                  obtain ⟨A6, C6, rfl⟩ := own_slice hrow
                  have hlen := HIc.out.live_len hs
                  rw [← HZE.out] at hlen
                  rw [hlen]
                  have HF6 := Lib.hid hf
                  clear hs hrow hf hlen
                  go_wp2_with fail
                  go_roundw
                  case rel => exact ⟨j, _, l5, by omega, by simp, by go_num, (HO5.out.keep HFI.out).keep HF6.out, HIc.out, (HK5.out.fresh HFI.out).fresh HF6.out⟩
                  case measure => simp [intOf]
            · have d2 : decide ((j : Int) > 0) = false := by simp; omega
              have d3 : decide (0 < j) = false := by simp; omega
              have HT0 : tot H F j = 0 := by
                rw [show j = 0 by omega]
                rfl
              have HML := Lib.hid hml
              have HJ0 := Lib.hid hj0
              clear hml hj0
              go_wp2_with fail
              go_loopw [18, 19] (fun s18 s19 wi => FRel3 w5 H F i j s18 s19 wi) (fun _ s19 _ => i - (intOf s19).toNat)
              case atStart => exact ⟨j, Nat.le_refl _, by omega, by simp [HT0], rfl, Only.refl _ _⟩
              case round =>
                obtain ⟨k, hjk, hki, rfl, rfl, hfi⟩ := hrel
                have HFI := Lib.hid hfi
                clear hfi
                by_cases hk : k < i
                · obtain ⟨x, hx⟩ : ∃ x, xs[k]? = some x := ⟨xs[k]'(by have := HX.out.1; have := HNA.out; omega), List.getElem?_eq_getElem _⟩
                  obtain ⟨ba, oa, rfl, hba, ea⟩ := HX.out.2 k x hx
                  have hzx := HHH.out.1 k x hx
                  have ca : wr.cell? ⟨ba, oa + k, none⟩ = some (.int .i64 x) := (Fresh.cel (HO5.out.fresh.trans' HFI.out) (p := ⟨ba, _, none⟩) hba).trans ea
                  have hc1 := fun W => (mod_any W x 5 (by omega) (by omega)).mono (R' := fun e w' => e = .returned (.int .i64 (H k : Nat)) ∧ w' = W) fun _ _ h => ⟨by rw [h.1, hzx], h.2.symm⟩
                  have HC1 := Lib.hid hc1
                  have hka := Nat.lt_of_lt_of_le hk HNA.out
                  clear hx hzx hc1
                  have hmn := sumTo_mono H hjk
                  have hZ : tot H F j + (sumTo H k - sumTo H j) ≤ 16777216 := by
                    have h1 := tot_le HHH.out.2.2.1 HHH.out.2.2.2 j
                    have h2 := sumTo_le HHH.out.2.2.1 k
                    omega
                  have hk4 := HHH.out.2.2.1 k
                  obtain ⟨Z, hZe⟩ : ∃ Z : Nat, Z = tot H F j + (sumTo H k - sumTo H j) := ⟨_, rfl⟩
                  rw [← hZe] at hZ ⊢
                  have HM := Lib.hid (And.intro hmn hZe)
                  clear hmn hZe
                  go_wp2_with fail
                  refine (HC1.out _).mono ?_
                  rintro e w6 ⟨rfl, rfl⟩
                  go_wp2_with fail
                  go_roundw
                  case rel =>
                    refine ⟨k + 1, by omega, by omega, ?_, by go_num, HFI.out⟩
                    have h1 := HM.out.1
                    have h2 := HM.out.2
                    have h3 : sumTo H (k + 1) = sumTo H k + H k := rfl
                    congr 1
                    omega
                  case measure => simp [intOf]; omega
                · obtain rfl : k = i := by omega
                  have hcc : tot H F (j + 1) + (sumTo H k - sumTo H (j + 1)) - F j = tot H F j + (sumTo H k - sumTo H j) := by
                    have h1 := tot_succ H F j
                    have h2 : sumTo H (j + 1) = sumTo H j + H j := rfl
                    have h3 := sumTo_mono H hj
                    omega
                  have HIc := Lib.hid (show FInv _ _ _ _ from hcc ▸ HI5.out)
                  have HT8 := Lib.hid (tot_le HHH.out.2.2.1 HHH.out.2.2.2 k)
                  obtain ⟨Z, hZe⟩ : ∃ Z : Nat, Z = tot H F j + (sumTo H k - sumTo H j) := ⟨_, rfl⟩
                  rw [← hZe]
                  have HZE := Lib.hid hZe
                  clear hcc hZe
                  go_wp2_with fail
                  refine (live_any (HO5.out.keep HFI.out).mem HIc.out.dom (by rw [HIc.out.made]; have := HT8.out; unfold Lim; omega)).mono ?_
                  rintro e w6 ⟨v, ss, rfl, hs, hrow, hf⟩
                  obtain ⟨A6, C6, rfl⟩ := own_slice hrow
                  have hlen := HIc.out.live_len hs
                  rw [← HZE.out] at hlen
                  rw [hlen]
                  have HF6 := Lib.hid hf
                  clear hs hrow hf hlen
                  go_wp2_with fail
                  go_roundw
                  case rel => exact ⟨j, _, l5, by omega, by simp, by go_num, (HO5.out.keep HFI.out).keep HF6.out, HIc.out, (HK5.out.fresh HFI.out).fresh HF6.out⟩
                  case measure => simp [intOf]
  · rw [if_neg hlt] at hn
    have d0 : decide (nb < na) = false := by simp; omega
    replace hn := hn.symm
    subst hn
    clear hlt
    go_wp2_with fail
    go_loopw [8, 9, 10] (fun s6 s7 s8 wr => FRel w p H F n s6 s7 s8 wr) (fun _ _ s8 _ => n - (intOf s8).toNat)
    case atStart => exact ⟨0, _, la, Nat.zero_le _, rfl, rfl, HA.out, FInv.start _, World.ownsRow_nil _ _ _ _, fun g hg => by simp [Value.ownBlock] at hg⟩
    case round =>
      obtain ⟨i, M, lab, hi, rfl, rfl, O, I, K⟩ := hrel
      have HO := Lib.hid O
      have HI := Lib.hid I
      have HK := Lib.hid K
      clear O I K HA
      by_cases hlt : i < n
      · go_wp2_with fail
        refine (Own.push HO.out (by rw [HI.out.frames]; simp; unfold Lim; omega)).mono ?_
        rintro e w2 ⟨rfl, l2, O2, X2⟩
        have HO2 := Lib.hid O2
        have HK2 := Lib.hid (HK.out.ext X2)
        have HI2 := Lib.hid HI.out.push
        clear O2 X2 HK HI HO
        go_wp2_with fail
        have hia := Nat.lt_of_lt_of_le hlt HNA.out
        have hib := Nat.lt_of_lt_of_le hlt HNB.out
        obtain ⟨x, hx⟩ : ∃ x, xs[i]? = some x := ⟨xs[i]'(by have := HX.out.1; have := HNA.out; omega), List.getElem?_eq_getElem _⟩
        obtain ⟨y, hy⟩ : ∃ y, ys[i]? = some y := ⟨ys[i]'(by have := HY.out.1; have := HNB.out; omega), List.getElem?_eq_getElem _⟩
        obtain ⟨ba, oa, rfl, hba, ea⟩ := HX.out.2 i x hx
        obtain ⟨bb, ob, rfl, hbb, eb⟩ := HY.out.2 i y hy
        have hzx := HHH.out.1 i x hx
        have hzy := HHH.out.2.1 i y hy
        have hz4 := HHH.out.2.2.1 i
        have hf4 := HHH.out.2.2.2 i
        have HEQ := Lib.hid (And.intro hzx hzy)
        clear hx hy hzx hzy
        go_loopw [9, 12] (fun s9 s12 wi => ∃ (k : Nat) (M : PM) (lab : Lab), k ≤ H i + F i ∧ s9 = .int .i64 (tot H F i + k : Nat) ∧ s12 = .int .i64 k ∧ Own w wi p lab M ∧ FInv M ((List.range i).map F ++ [k - H i]) (tot H F i + k) (tot H F i + k) ∧ Marks w wi lab u8 (marksTo H F i)) (fun _ s12 _ => H i + F i - (intOf s12).toNat)
        case atStart => exact ⟨0, _, l2, Nat.zero_le _, rfl, rfl, HO2.out, by simpa using HI2.out, HK2.out⟩
        case round =>
          clear HO2 HI2 HK2
          obtain ⟨k, M, lab, hk, rfl, rfl, O, I, K⟩ := hrel
          have HO := Lib.hid O
          have HI := Lib.hid I
          have HK := Lib.hid K
          have ca : wr.cell? ⟨ba, oa + i, none⟩ = some (.int .i64 x) := (Fresh.cel O.fresh (p := ⟨ba, _, none⟩) hba).trans ea
          have cb : wr.cell? ⟨bb, ob + i, none⟩ = some (.int .i64 y) := (Fresh.cel O.fresh (p := ⟨bb, _, none⟩) hbb).trans eb
          clear O I K
          obtain ⟨hz, hhz⟩ : ∃ z : Int, z = (H i : Nat) := ⟨_, rfl⟩
          obtain ⟨fz, hfz⟩ : ∃ z : Int, z = (F i : Nat) := ⟨_, rfl⟩
          have hc1 := fun W => (mod_any W x 5 (by omega) (by omega)).mono (R' := fun e w' => e = .returned (.int .i64 hz) ∧ w' = W) fun _ _ h => ⟨by rw [h.1, HEQ.out.1, hhz], h.2.symm⟩
          have hc2 := fun W => (mod_any W y 5 (by omega) (by omega)).mono (R' := fun e w' => e = .returned (.int .i64 fz) ∧ w' = W) fun _ _ h => ⟨by rw [h.1, HEQ.out.2, hfz], h.2.symm⟩
          have HC1 := Lib.hid hc1
          have HC2 := Lib.hid hc2
          have hww : IntKind.i64.wrap (hz + fz) = hz + fz := IntWalk.i64_in _ (by omega)
          have HZ := Lib.hid (And.intro hhz hfz)
          have hz0 : 0 ≤ hz := by omega
          have hz9 : hz ≤ 4 := by omega
          by_cases hkl : k < H i + F i
          · have d1 : decide ((k : Int) < hz + fz) = true := by simp; omega
            clear hc1 hc2 hhz hfz
            go_wp2_with fail
            refine wp_region_still_lit (by kernel_rfl) (by kernel_rfl) ?_
            repeat still_step
            still_call (HC1.out _)
            repeat still_step
            still_call (HC2.out _)
            repeat still_step
            refine wpStill_nil ?_
            go_wp2_with fail
            refine (HC1.out _).mono ?_
            rintro e w3 ⟨rfl, rfl⟩
            go_wp2_with fail
            obtain ⟨m1, m2, m3⟩ := HI.out.make (1 + (k : Int) % 8) (decide ((k : Int) < hz)) (by omega) (by omega)
            have hT := tot_le HHH.out.2.2.1 HHH.out.2.2.2 i
            have h := Own.make (HO.out.keep (Only.refl _ _).drew) (1 + (k : Int) % 8) (decide ((k : Int) < hz)) (by rw [HI.out.frames]; simp; unfold Lim; omega) (by rw [HI.out.made]; unfold Lim; omega) (HI.out.each (frs_lt HHH.out.2.2.2 (by unfold Lim; omega)))
            have e1 : M.mkN (1 + (k : Int) % 8) = (tot H F i : Int) + k + 1 := by rw [m2]; push_cast; rfl
            rw [e1, m1] at h
            have HI3 := Lib.hid m3
            refine h.mono ?_
            have hT8 : tot H F i ≤ 8388608 := by omega
            clear h m1 m2 m3 e1 hT
            rintro e w3 ⟨rfl, l3, O3, X3⟩
            have HO3 := Lib.hid O3
            have HK3 := Lib.hid ((HK.out.fresh (Only.refl _ _).drew).ext X3)
            clear O3 X3
            go_wp2_with fail
            go_roundw
            case rel =>
              refine ⟨k + 1, _, l3, by omega, by go_num, by go_num, HO3.out, ?_, HK3.out⟩
              have e2 : (k - H i) + (if decide ((k : Int) < hz) = true then 0 else 1) = k + 1 - H i := by
                have := HZ.out.1
                by_cases hq : (k : Int) < hz
                · simp [hq]; omega
                · simp [hq]; omega
              rw [← e2]
              exact HI3.out
            case measure => simp [intOf]; omega
          · have d1 : decide ((k : Int) < hz + fz) = false := by simp; omega
            have HKE := Lib.hid (show k = H i + F i by omega)
            obtain ⟨i0, hin, hz0', hz1', hz2'⟩ := info_parts infoInt
            have hlen : (marksTo H F i).length = i := by simp [marksTo]
            clear hc1 hc2 hhz hfz
            go_wp2_with fail
            refine wp_region_still_lit (by kernel_rfl) (by kernel_rfl) ?_
            repeat still_step
            still_call (HC1.out _)
            repeat still_step
            still_call (HC2.out _)
            repeat still_step
            refine wpStill_nil ?_
            have HLN := Lib.hid hlen
            have HIN := Lib.hid (And.intro hin (And.intro hz0' (And.intro hz1' hz2')))
            clear hlen hin hz0' hz1' hz2'
            go_wp2_with (at_builtin; go_must (refine wpl_app _ rfl _ _ 39 rfl 0 3 i0 (.int .i64 0) 1 8 Try.underlying39 HIN.out.1 HIN.out.2.1 HIN.out.2.2.1 HIN.out.2.2.2 rfl (by decide) u8 _ _ rfl (((HK.out.fresh (Only.refl _ _).drew).fresh (alloc_fresh _ _)).1) wr.heap.size 1 1 [.int .i64 ((tot H F i : Int) + k)] 3 (0, 0) rfl (new_blk _) rfl (by simp [Value.oneCell']) (by rw [HLN.out]; unfold maxLen; omega) (by rw [HLN.out]; omega) (Nat.zero_le _) ?_); intro A4 C4 w4 hown hgrow hat; have HW := Lib.hid (And.intro hown (And.intro hgrow hat)); clear hown hgrow hat)
            go_roundw
            case rel =>
              have hk' := HKE.out
              refine ⟨i + 1, M, lab, by omega, ?_, by go_num, ?_, ?_, ?_⟩
              · rw [tot_succ, ← hk']
                go_num
              · exact (((HO.out.keep (Only.refl _ _).drew).keep (alloc_fresh _ _))).grown HW.out.2.1 HK.out.2
              · rw [List.range_succ, List.map_append, tot_succ, ← hk']
                have e3 : k - H i = F i := by omega
                have := HI.out
                rw [e3] at this
                exact this
              · have hm : marksTo H F (i + 1) = marksTo H F i ++ [(tot H F i : Int) + k] := by
                  unfold marksTo
                  rw [List.range_succ, List.map_append, List.map_cons, List.map_nil, tot_succ, ← hk']
                  push_cast
                  rfl
                rw [hm]
                exact ((HK.out.fresh (Only.refl _ _).drew).fresh (alloc_fresh _ _)).app HW.out.1 HW.out.2.2 (fun b hb => Nat.lt_of_lt_of_le (HO.out.old b hb) (by simp)) (Nat.le_trans HO.out.size (by simp))
            case measure => simp [intOf]; omega
      · obtain rfl : i = n := by omega
        clear hi hlt
        go_wp2_with fail
        go_loopw [5, 15] (fun s5 s15 wr => FRel2 w p H F i u8 s5 s15 wr) (fun _ s15 _ => (intOf s15 + 1).toNat)
        case atStart => exact ⟨i, M, lab, Nat.le_refl _, rfl, rfl, HO.out, by simpa using HI.out, HK.out⟩
        case round =>
          clear HO HI HK
          obtain ⟨j, M, lab, hj, rfl, rfl, O, I, K⟩ := hrel
          have HO := Lib.hid O
          have HI := Lib.hid I
          have HK := Lib.hid K
          clear O I K
          cases j with
          | zero =>
            go_wp2_with fail
            have h := HO.out.pop (by rw [HI.out.frames]; simp; unfold Lim; omega) (HI.out.each (fun a ha => by simp at ha))
            have hpe : M.popErr = 30 := FInv.none (c := tot H F 0 + (sumTo H i - sumTo H 0)) (m := tot H F i) (by simpa using HI.out)
            rw [hpe] at h
            refine h.mono ?_
            clear h hpe
            rintro e w5 ⟨rfl, l5, O5, X5⟩
            have HO5 := Lib.hid O5
            clear O5 X5
            go_wp2_with fail
            go_ret
            exact ⟨rfl, HO5.out.fresh⟩
          | succ j =>
            rw [show ((j + 1 : Nat) : Int) - 1 = (j : Int) by omega]
            go_wp2_with fail
            have hI := HI.out
            rw [List.range_succ, List.map_append, List.map_cons, List.map_nil] at hI
            obtain ⟨p1, p2, p3⟩ := hI.pop
            have h := HO.out.pop (by rw [HI.out.frames]; simp; unfold Lim; omega) (HI.out.each (fun a ha => by
              obtain ⟨q, _, rfl⟩ := List.mem_map.1 ha
              have := HHH.out.2.2.2 q
              unfold Lim
              omega))
            rw [p1] at h
            have HI5 := Lib.hid p3
            refine h.mono ?_
            clear h p1 p2 p3 hI
            rintro e w5 ⟨rfl, l5, O5, X5⟩
            have HO5 := Lib.hid O5
            have HK5 := Lib.hid (HK.out.ext X5)
            clear O5 X5 HO HK
            have hml : (marksTo H F i).length = i := by simp [marksTo]
            by_cases hj0 : 0 < j
            · have hmc : ((marksTo H F i).map (Value.int .i64))[j - 1]? = some (.int .i64 (tot H F j : Nat)) := by
                rw [List.getElem?_map]
                unfold marksTo
                rw [List.getElem?_map, List.getElem?_range (by omega)]
                simp only [Option.map_some]
                rw [Nat.sub_add_cancel hj0]
              obtain ⟨g, c, rfl, hgc, _, _⟩ := own_cell HK5.out.1 hmc
              have hL0 : (0 : Int) ≤ (j : Int) - 1 := by omega
              have hL1 : (j : Int) - 1 < ((marksTo H F i).length : Int) := by rw [hml]; omega
              have hL2 : j - 1 < (marksTo H F i).length := by rw [hml]; omega
              have hL3 : ((j : Int) - 1).toNat < (marksTo H F i).length := by rw [hml]; omega
              have HML := Lib.hid hml
              clear hml
              have d2 : decide ((j : Int) > 0) = true := by simp; omega
              have d3 : decide (0 < j) = true := by simp; omega
              clear hmc
              go_wp2_with fail
              go_loopw [18, 19] (fun s18 s19 wi => FRel3 w5 H F i j s18 s19 wi) (fun _ s19 _ => i - (intOf s19).toNat)
              case atStart => exact ⟨j, Nat.le_refl _, by omega, by simp, rfl, Only.refl _ _⟩
              case round =>
                obtain ⟨k, hjk, hki, rfl, rfl, hfi⟩ := hrel
                have HFI := Lib.hid hfi
                clear hfi
                by_cases hk : k < i
                · obtain ⟨x, hx⟩ : ∃ x, xs[k]? = some x := ⟨xs[k]'(by have := HX.out.1; have := HNA.out; omega), List.getElem?_eq_getElem _⟩
                  obtain ⟨ba, oa, rfl, hba, ea⟩ := HX.out.2 k x hx
                  have hzx := HHH.out.1 k x hx
                  have ca : wr.cell? ⟨ba, oa + k, none⟩ = some (.int .i64 x) := (Fresh.cel (HO5.out.fresh.trans' HFI.out) (p := ⟨ba, _, none⟩) hba).trans ea
                  have hc1 := fun W => (mod_any W x 5 (by omega) (by omega)).mono (R' := fun e w' => e = .returned (.int .i64 (H k : Nat)) ∧ w' = W) fun _ _ h => ⟨by rw [h.1, hzx], h.2.symm⟩
                  have HC1 := Lib.hid hc1
                  have hka := Nat.lt_of_lt_of_le hk HNA.out
                  clear hx hzx hc1
                  have hmn := sumTo_mono H hjk
                  have hZ : tot H F j + (sumTo H k - sumTo H j) ≤ 16777216 := by
                    have h1 := tot_le HHH.out.2.2.1 HHH.out.2.2.2 j
                    have h2 := sumTo_le HHH.out.2.2.1 k
                    omega
                  have hk4 := HHH.out.2.2.1 k
                  obtain ⟨Z, hZe⟩ : ∃ Z : Nat, Z = tot H F j + (sumTo H k - sumTo H j) := ⟨_, rfl⟩
                  rw [← hZe] at hZ ⊢
                  have HM := Lib.hid (And.intro hmn hZe)
                  clear hmn hZe
                  go_wp2_with fail
                  refine (HC1.out _).mono ?_
                  rintro e w6 ⟨rfl, rfl⟩
                  go_wp2_with fail
                  go_roundw
                  case rel =>
                    refine ⟨k + 1, by omega, by omega, ?_, by go_num, HFI.out⟩
                    have h1 := HM.out.1
                    have h2 := HM.out.2
                    have h3 : sumTo H (k + 1) = sumTo H k + H k := rfl
                    congr 1
                    omega
                  case measure => simp [intOf]; omega
                · obtain rfl : k = i := by omega
                  have hcc : tot H F (j + 1) + (sumTo H k - sumTo H (j + 1)) - F j = tot H F j + (sumTo H k - sumTo H j) := by
                    have h1 := tot_succ H F j
                    have h2 : sumTo H (j + 1) = sumTo H j + H j := rfl
                    have h3 := sumTo_mono H hj
                    omega
                  have HIc := Lib.hid (show FInv _ _ _ _ from hcc ▸ HI5.out)
                  have HT8 := Lib.hid (tot_le HHH.out.2.2.1 HHH.out.2.2.2 k)
                  obtain ⟨Z, hZe⟩ : ∃ Z : Nat, Z = tot H F j + (sumTo H k - sumTo H j) := ⟨_, rfl⟩
                  rw [← hZe]
                  have HZE := Lib.hid hZe
                  clear hcc hZe
                  go_wp2_with fail
                  refine (live_any (HO5.out.keep HFI.out).mem HIc.out.dom (by rw [HIc.out.made]; have := HT8.out; unfold Lim; omega)).mono ?_
                  rintro e w6 ⟨v, ss, rfl, hs, hrow, hf⟩
                  obtain ⟨A6, C6, rfl⟩ := own_slice hrow
                  have hlen := HIc.out.live_len hs
                  rw [← HZE.out] at hlen
                  rw [hlen]
                  have HF6 := Lib.hid hf
                  clear hs hrow hf hlen
                  go_wp2_with fail
                  go_roundw
                  case rel => exact ⟨j, _, l5, by omega, by simp, by go_num, (HO5.out.keep HFI.out).keep HF6.out, HIc.out, (HK5.out.fresh HFI.out).fresh HF6.out⟩
                  case measure => simp [intOf]
            · have d2 : decide ((j : Int) > 0) = false := by simp; omega
              have d3 : decide (0 < j) = false := by simp; omega
              have HT0 : tot H F j = 0 := by
                rw [show j = 0 by omega]
                rfl
              have HML := Lib.hid hml
              have HJ0 := Lib.hid hj0
              clear hml hj0
              go_wp2_with fail
              go_loopw [18, 19] (fun s18 s19 wi => FRel3 w5 H F i j s18 s19 wi) (fun _ s19 _ => i - (intOf s19).toNat)
              case atStart => exact ⟨j, Nat.le_refl _, by omega, by simp [HT0], rfl, Only.refl _ _⟩
              case round =>
                obtain ⟨k, hjk, hki, rfl, rfl, hfi⟩ := hrel
                have HFI := Lib.hid hfi
                clear hfi
                by_cases hk : k < i
                · obtain ⟨x, hx⟩ : ∃ x, xs[k]? = some x := ⟨xs[k]'(by have := HX.out.1; have := HNA.out; omega), List.getElem?_eq_getElem _⟩
                  obtain ⟨ba, oa, rfl, hba, ea⟩ := HX.out.2 k x hx
                  have hzx := HHH.out.1 k x hx
                  have ca : wr.cell? ⟨ba, oa + k, none⟩ = some (.int .i64 x) := (Fresh.cel (HO5.out.fresh.trans' HFI.out) (p := ⟨ba, _, none⟩) hba).trans ea
                  have hc1 := fun W => (mod_any W x 5 (by omega) (by omega)).mono (R' := fun e w' => e = .returned (.int .i64 (H k : Nat)) ∧ w' = W) fun _ _ h => ⟨by rw [h.1, hzx], h.2.symm⟩
                  have HC1 := Lib.hid hc1
                  have hka := Nat.lt_of_lt_of_le hk HNA.out
                  clear hx hzx hc1
                  have hmn := sumTo_mono H hjk
                  have hZ : tot H F j + (sumTo H k - sumTo H j) ≤ 16777216 := by
                    have h1 := tot_le HHH.out.2.2.1 HHH.out.2.2.2 j
                    have h2 := sumTo_le HHH.out.2.2.1 k
                    omega
                  have hk4 := HHH.out.2.2.1 k
                  obtain ⟨Z, hZe⟩ : ∃ Z : Nat, Z = tot H F j + (sumTo H k - sumTo H j) := ⟨_, rfl⟩
                  rw [← hZe] at hZ ⊢
                  have HM := Lib.hid (And.intro hmn hZe)
                  clear hmn hZe
                  go_wp2_with fail
                  refine (HC1.out _).mono ?_
                  rintro e w6 ⟨rfl, rfl⟩
                  go_wp2_with fail
                  go_roundw
                  case rel =>
                    refine ⟨k + 1, by omega, by omega, ?_, by go_num, HFI.out⟩
                    have h1 := HM.out.1
                    have h2 := HM.out.2
                    have h3 : sumTo H (k + 1) = sumTo H k + H k := rfl
                    congr 1
                    omega
                  case measure => simp [intOf]; omega
                · obtain rfl : k = i := by omega
                  have hcc : tot H F (j + 1) + (sumTo H k - sumTo H (j + 1)) - F j = tot H F j + (sumTo H k - sumTo H j) := by
                    have h1 := tot_succ H F j
                    have h2 : sumTo H (j + 1) = sumTo H j + H j := rfl
                    have h3 := sumTo_mono H hj
                    omega
                  have HIc := Lib.hid (show FInv _ _ _ _ from hcc ▸ HI5.out)
                  have HT8 := Lib.hid (tot_le HHH.out.2.2.1 HHH.out.2.2.2 k)
                  obtain ⟨Z, hZe⟩ : ∃ Z : Nat, Z = tot H F j + (sumTo H k - sumTo H j) := ⟨_, rfl⟩
                  rw [← hZe]
                  have HZE := Lib.hid hZe
                  clear hcc hZe
                  go_wp2_with fail
                  refine (live_any (HO5.out.keep HFI.out).mem HIc.out.dom (by rw [HIc.out.made]; have := HT8.out; unfold Lim; omega)).mono ?_
                  rintro e w6 ⟨v, ss, rfl, hs, hrow, hf⟩
                  obtain ⟨A6, C6, rfl⟩ := own_slice hrow
                  have hlen := HIc.out.live_len hs
                  rw [← HZE.out] at hlen
                  rw [hlen]
                  have HF6 := Lib.hid hf
                  clear hs hrow hf hlen
                  go_wp2_with fail
                  go_roundw
                  case rel => exact ⟨j, _, l5, by omega, by simp, by go_num, (HO5.out.keep HFI.out).keep HF6.out, HIc.out, (HK5.out.fresh HFI.out).fresh HF6.out⟩
                  case measure => simp [intOf]
end Go.Proofs.Ytabfmoedbnpihaa
