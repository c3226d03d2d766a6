/- A step towards the laws on the cells of a run: the walk of CellsLedger. No conditions of its own beyond those that its theorems name. -/
import Derived.Test.YtabfmoedbnpihaaKSquare
namespace Go.Proofs.Ytabfmoedbnpihaa
open Go.RowKit Go.MapKept

theorem act_any {w0 w : World} {p q i : Nat} {lab ll : Lab} {M : PM} {L : PL} (h : Shadow w0 w p q lab ll M L) (hz : Led M L) (hs : Small i M) (hi : i ≤ 1048576) (k n : Int) (heap : Bool) (f x : Int) :
    Calls Try.prog 21 #[.pointer (some ⟨q, 0, none⟩), .agg #[.int .i64 k, .int .i64 n, .bool heap, .int .i64 f, .int .i64 x]] w fun e w' => e = .returned (.bool true) ∧ Acted w0 w' p q M := by
  have hf : M.frames.length < 1048600 := by have := hs.frames; omega
  have hmd : M.made ≤ 1048576 := by have := hs.made; omega
  obtain ⟨_, _, hfl⟩ := hs.lim hi
  by_cases h1 : k = 1
  · subst h1
    exact act_push h hz hf hmd hfl n heap f x
  by_cases h2 : k = 2
  · subst h2
    exact act_pop h hz hf hmd hfl n heap f x
  by_cases h3 : k = 3
  · subst h3
    exact act_make h hz hf hmd hfl n heap f x
  by_cases h4 : k = 4
  · subst h4
    exact act_drop h hz hf hmd hfl n heap f x
  by_cases h5 : k = 5
  · subst h5
    exact act_put h hz hf hmd hfl n heap f x
  exact act_other h hz hf hmd hfl k n heap f x (by simp [h1]) (by simp [h2]) (by simp [h3]) (by simp [h4]) (by simp [h5])

/-- a thing that is done, as it came in -/
structure PAct where
  k : Int
  n : Int
  heap : Bool
  f : Int
  x : Int
def Acts (w : World) (A : Option Addr) (n : Nat) (xs : List PAct) : Prop :=
  xs.length = n ∧ ∀ (i : Nat) (a : PAct), xs[i]? = some a → ∃ b o, A = some ⟨b, o, none⟩ ∧ b < w.heap.size ∧ w.cell? ⟨b, o + i * 5, none⟩ = some (.int .i64 a.k) ∧ w.cell? ⟨b, o + i * 5 + 1, none⟩ = some (.int .i64 a.n) ∧
    w.cell? ⟨b, o + i * 5 + 2, none⟩ = some (.bool a.heap) ∧ w.cell? ⟨b, o + i * 5 + 3, none⟩ = some (.int .i64 a.f) ∧ w.cell? ⟨b, o + i * 5 + 4, none⟩ = some (.int .i64 a.x)

theorem shadow_new {w w2 : World} {p : Nat} {la : Lab} (h : Own w w2 p la (PM.new 0)) :
    ∃ ll, Shadow w (w2.alloc (.cells #[.pointer (some ⟨p, 0, none⟩), .int .i64 0, .slice none 0 0] 46)) p w2.heap.size la ll (PM.new 0) ⟨0, []⟩ := by
  refine ⟨fun b => if b = w2.heap.size then some (0, 0) else none, h.alloc _, ⟨none, 0, [], ?_⟩, fun b hb => ?_⟩
  · refine ⟨new_blk _, if_pos rfl, World.ownsRow_nil _ _ _ _, fun g hg => by simp at hg, fun i m hi => by simp at hi, fun b hb => ?_⟩
    have : b = w2.heap.size := by
      refine Decidable.byContradiction fun k => hb ?_
      show (if b = w2.heap.size then _ else _) = _
      rw [if_neg k]
    rw [this]
    simp
  · have : b = w2.heap.size := by
      refine Decidable.byContradiction fun k => hb ?_
      show (if b = w2.heap.size then _ else _) = _
      rw [if_neg k]
    subst this
    exact ⟨h.size, Decidable.byContradiction fun e => by have := h.old _ e; omega⟩
theorem small_new : Small 0 (PM.new 0) := ⟨Nat.le_refl _, by simp [PM.new], fun l hl => by simp [PM.new] at hl⟩
/-- ahead of the i-th act -/
structure LgS (w wr : World) (p q i : Nat) (lab ll : Lab) (M : PM) (L : PL) : Prop where
  s : Shadow w wr p q lab ll M L
  z : Led M L
  m : Small i M
def LgR (w : World) (p q n : Nat) (s3 s5 : Value) (wr : World) : Prop := ∃ (i : Nat) (lab ll : Lab) (M : PM) (L : PL), i ≤ n ∧ s3 = .bool true ∧ s5 = .int .i64 i ∧ LgS w wr p q i lab ll M L

set_option maxRecDepth 200000 in
set_option maxHeartbeats 1000000 in
theorem ledger_walk (w : World) (A : Option Addr) (n C : Nat) (xs : List PAct) (hv : Acts w A n xs) (hn : n ≤ 1048576) :
    Calls Try.prog 5 #[.slice A n C] w fun e w' => e = .returned (.bool true) ∧ Fresh w w' := by
  have HV := Lib.hid hv
  clear hv
  go_enter Try.func5, Try.ntmps5
  go_wp2_with fail
  refine (fixed_any w).mono ?_
  rintro e w0 ⟨rfl, F0⟩
  have HF0 := Lib.hid F0
  clear F0
  go_wp2_with fail
  refine (own_new w w0 HF0.out 0).mono ?_
  rintro e w1 ⟨p, la, rfl, Oa, _, _⟩
  obtain ⟨ll, hsh⟩ := shadow_new Oa
  have HS0 := Lib.hid hsh
  clear Oa hsh
  go_wp2_with fail
  obtain ⟨q, hq⟩ : ∃ q, q = w1.heap.size := ⟨_, rfl⟩
  have hsh := HS0.out
  rw [← hq] at hsh ⊢
  have HS := Lib.hid hsh
  clear HS0 hsh hq
  go_loopw [3, 5] (fun s3 s5 wr => LgR w p q n s3 s5 wr) (fun _ s5 _ => n - (intOf s5).toNat)
  case atStart => exact ⟨0, la, ll, _, _, Nat.zero_le _, rfl, rfl, HS.out, Led.start 0, small_new⟩
  case round =>
    clear HS
    obtain ⟨i, lab, ll, M, L, hi, rfl, rfl, T⟩ := hrel
    have HT := Lib.hid T
    clear T
    by_cases hlt : i < n
    · obtain ⟨a, ha⟩ : ∃ a, xs[i]? = some a := ⟨xs[i]'(by have := HV.out.1; omega), List.getElem?_eq_getElem _⟩
      obtain ⟨b, o, rfl, hb, e0, e1, e2, e3, e4⟩ := HV.out.2 i a ha
      have F := HT.out.s.fresh
      rw [← Fresh.cel F (p := ⟨b, _, none⟩) hb] at e0 e1 e2 e3 e4
      have hbw := Nat.lt_of_lt_of_le hb F.size
      clear F ha
      obtain ⟨k, m, heap, f, x⟩ := a
      dsimp only at e0 e1 e2 e3 e4
      have d1 : decide ((i : Int) < n) = true := by simp; omega
      have d2 : decide (i < n) = true := by simp; omega
      have HC := Lib.hid (act_any HT.out.s HT.out.z HT.out.m (by omega) k m heap f x)
      go_wp2_with fail
      refine HC.out.mono ?_
      clear HC e0 e1 e2 e3 e4 hbw
      rintro e w2 ⟨rfl, lab2, ll2, M2, L2, hS2, hZ2, hM2⟩
      have hsm : Small (i + 1) M2 := by
        rcases hM2 with rfl | ⟨o, rfl⟩
        · exact HT.out.m.mono (by omega)
        · exact HT.out.m.one o
      have HS2 := Lib.hid (And.intro hS2 (And.intro hZ2 hsm))
      clear hS2 hZ2 hM2 hsm
      go_wp2_with fail
      refine (square_led HS2.out.1 HS2.out.2.1 (by have := HS2.out.2.2.made; omega)).mono ?_
      rintro e w3 ⟨rfl, F3⟩
      have HF3 := Lib.hid F3
      clear F3
      go_wp2_with fail
      go_roundw
      case rel => exact ⟨i + 1, lab2, ll2, M2, L2, by omega, rfl, by go_num, HS2.out.1.keep HF3.out, HS2.out.2.1, HS2.out.2.2⟩
      case measure => simp [intOf]; omega
    · have d1 : decide ((i : Int) < n) = false := by simp; omega
      have d2 : decide (i < n) = false := by simp; omega
      go_wp2_with fail
      go_ret
      exact ⟨rfl, HT.out.s.fresh⟩
end Go.Proofs.Ytabfmoedbnpihaa
