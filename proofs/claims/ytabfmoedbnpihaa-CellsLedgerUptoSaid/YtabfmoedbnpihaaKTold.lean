/- A step towards the laws on the cells of a run: one call's answer as numbers (told). No conditions of its own beyond those that its theorems name. -/
import Derived.Test.YtabfmoedbnpihaaKRefuses
namespace Go.Proofs.Ytabfmoedbnpihaa
open Go.RowKit Go.MapKept

/-- one call's answer as numbers; ss: what Live tells -/
def PM.told (M : PM) (o : POp) (ss : List Int) : List Int := [M.oneN o, (M.oneV o).1, (M.oneV o).2, M.oneE o] ++ ss

theorem Lst.app {w wr w4 : World} {lab : Lab} {v : Value} {l : List Int} {A : Option Addr} {C : Nat} {x : Int} (h : Lst w wr lab v l) (hown : w4.ownsRow 0 3 1 (.slice A (l.length + 1) C) (l.length + 1) (l.map (Value.int .i64) ++ [.int .i64 x]))
    (hat : A.map Addr.block = v.ownBlock ∨ A.map Addr.block = some wr.heap.size) (ho : ∀ b, lab b ≠ none → b < wr.heap.size) (hs : w.heap.size ≤ wr.heap.size) : Lst w w4 lab (.slice A (l.length + 1) C) (l ++ [x]) := by
  refine ⟨by simpa using hown, fun g hg => ?_⟩
  rw [own_map] at hg
  rcases hat with q | q
  · exact h.2 g (by rw [← q, hg])
  · rw [q] at hg
    injection hg with hg
    subst hg
    exact ⟨Decidable.byContradiction fun k => by have := ho _ k; omega, hs⟩

set_option maxRecDepth 200000 in
set_option maxHeartbeats 1000000 in
theorem told_any {w w1 : World} {p : Nat} {lab : Lab} {M : PM} (h : Own w w1 p lab M) (o : POp) (A : Option Addr) (ln cp : Nat) (hl : Ints w1 A ln o.cells) (hn : ln ≤ 9223372036854775807) (hd : M.Dom) (hf : M.frames.length < Lim) (hmd : M.made < Lim) (hfl : ∀ l ∈ M.frames, l.length < Lim) :
    Calls Try.prog 28 #[.pointer (some ⟨p, 0, none⟩), o.val A ln cp] w1
      fun e w2 => ∃ (A : Option Addr) (n C : Nat) (ss : List Int) (lab2 : Lab), e = .returned (.slice A n C) ∧ n = (M.told o ss).length ∧ (o.kind = 9 → LiveIs M ss) ∧ (o.kind ≠ 9 → ss = []) ∧
        Lst w1 w2 lab2 (.slice A n C) (M.told o ss) ∧ Own w w2 p lab2 (M.oneM o) ∧ Ext w1 w2 lab lab2 := by
  have H := Lib.hid h
  have hc := fun W (f : Fresh w1 W) (hW : Own w W p lab M) => one_all hW o A ln cp (hl.alloc f) hn hd hf hmd hfl
  unfold PM.told
  generalize M.oneM o = M2 at *
  generalize M.oneN o = na at *
  generalize M.oneE o = ea at *
  generalize M.oneV o = va at *
  obtain ⟨va0, va1⟩ := va
  obtain ⟨k, on, m, heap, ⟨v0, v1⟩, ⟨y0, y1⟩, cs⟩ := o
  have HC := Lib.hid hc
  have HD := Lib.hid (And.intro hd hmd)
  clear hc h hl hd hfl hf hmd
  unfold POp.val
  dsimp only
  go_enter Try.func28, Try.ntmps28
  go_wp2_with fail
  refine (HC.out _ (alloc_fresh _ _) (H.out.keep (alloc_fresh _ _))).mono ?_
  rintro e w2 ⟨A2, C2, ss, l2, rfl, g1, g2, L2, O2, X2⟩
  have HO := Lib.hid O2
  have HX := Lib.hid X2
  have HL := Lib.hid L2
  have HG := Lib.hid (And.intro g1 g2)
  have HSL := Lib.hid (show ss.length ≤ 1099511627776 by
    by_cases h9 : k = 9
    · have q := g1 h9
      have := nodup_len (md := M.made) (q.rising.imp fun r => Int.ne_of_lt r) (fun x hx => HD.out.1 x ((q.mem x).1 hx))
      have h2 := HD.out.2
      unfold Lim at h2
      omega
    · rw [g2 h9]
      simp)
  clear g1 g2 O2 X2 L2
  go_wp2_with fail
  have hsl : ss.length ≤ 9223372036854775806 := by have := HSL.out; omega
  have HL2 := Lib.hid HL.out.ints.2
  obtain ⟨i0, hin, hz0', hz1', hz2'⟩ := info_parts infoInt
  have HIN := Lib.hid (And.intro hin (And.intro hz0' (And.intro hz1' hz2')))
  clear hin hz0' hz1' hz2'
  go_loopw [9, 10] (fun s9 s10 wr => ∃ (i : Nat) (A : Option Addr) (C : Nat), i ≤ ss.length ∧ s9 = .slice A (4 + i) C ∧ s10 = .int .i64 i ∧ Fresh w2 wr ∧ Lst w2 wr l2 (.slice A (4 + i) C) ([na, va0, va1, ea] ++ ss.take i)) (fun _ s10 _ => ss.length - (intOf s10).toNat)
  case atStart =>
    refine ⟨0, _, 4, Nat.zero_le _, rfl, rfl, alloc_fresh2 _ _ _, ⟨rfl, .inr ⟨w2.heap.size + 1, 4, _, rfl, Nat.zero_le _, two_blk _ _ _, Nat.le_refl _, by unfold maxLen; omega, rfl, rfl⟩⟩, fun g hg => ?_⟩
    rw [own_map] at hg
    simp at hg
    subst hg
    exact ⟨Decidable.byContradiction fun k => by have := HO.out.old _ k; omega, by omega⟩
  case round =>
    obtain ⟨i, A, C, hi, rfl, rfl, hf, hls⟩ := hrel
    have HF := Lib.hid hf
    obtain ⟨L, hL⟩ : ∃ L, L = [na, va0, va1, ea] ++ ss.take i := ⟨_, rfl⟩
    have HLL := Lib.hid (show L.length = 4 + i by rw [hL]; simp; omega)
    have HLE := Lib.hid hL
    rw [← hL] at hls
    have HS := Lib.hid hls
    clear hf hls hL
    by_cases hlt : i < ss.length
    · obtain ⟨x, hx⟩ : ∃ x, ss[i]? = some x := ⟨ss[i], List.getElem?_eq_getElem _⟩
      obtain ⟨bb, ob, rfl, hbb, eb⟩ := HL2.out.2 i x hx
      have cb : wr.cell? ⟨bb, ob + i, none⟩ = some (.int .i64 x) := (Fresh.cel HF.out (p := ⟨bb, _, none⟩) hbb).trans eb
      have HTK := Lib.hid (take_mem hx)
      clear hx eb
      go_wp2_with (at_builtin; go_must (refine wpl_app _ rfl _ _ 39 rfl 0 3 i0 (.int .i64 0) 1 8 Try.underlying39 HIN.out.1 HIN.out.2.1 HIN.out.2.2.1 HIN.out.2.2.2 rfl (by decide) (.slice A (4 + i) C) _ _ rfl ((HS.out.fresh (alloc_fresh _ _)).1) wr.heap.size 1 1 [.int .i64 x] 3 (0, 0) rfl (new_blk _) rfl (by simp [Value.oneCell']) (by rw [HLL.out]; have := HSL.out; unfold maxLen; omega) (by rw [HLL.out]; have := HSL.out; omega) (Nat.zero_le _) ?_); intro A4 C4 w4 hown hgrow hat; have HW := Lib.hid (And.intro hown (And.intro hgrow hat)); clear hown hgrow hat)
      go_roundw
      case rel =>
        refine ⟨i + 1, A4, C4, by omega, by rw [HLL.out, Nat.add_assoc], by go_num, (HF.out.alloc _).grown HW.out.2.1 fun g hg => .inr (HS.out.2 g hg).2, ?_⟩
        have h := (HS.out.fresh (alloc_fresh _ _)).app HW.out.1 HW.out.2.2 (fun b hb => Nat.lt_of_lt_of_le (HO.out.old b hb) (Nat.le_trans HF.out.size (by simp))) (Nat.le_trans HF.out.size (by simp))
        rw [HLL.out] at h
        rw [HTK.out, ← List.append_assoc, ← HLE.out]
        exact h
      case measure => simp [intOf]; omega
    · go_wp2_with fail
      go_ret
      obtain rfl : i = ss.length := by omega
      have h := HS.out
      rw [HLE.out, List.take_length] at h
      exact ⟨A, 4 + ss.length, C, ss, l2, rfl, by omega, HG.out.1, HG.out.2, h.base (Nat.le_trans (by simp) HX.out.only.size), HO.out.keep HF.out, (HX.out.before (alloc_fresh _ _)).after HF.out⟩
end Go.Proofs.Ytabfmoedbnpihaa
