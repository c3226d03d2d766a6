/- A step towards the laws on histories: fits. No conditions of its own beyond those that its theorems name. -/
import Derived.Test.YtfahoomkpammiaaHSaw
import Derived.LoopTactic
namespace Go.Proofs.Ytfahoomkpammiaa
open Go.RowKit Go.MapKept Go.Proofs.YtfahoomkpammiaaW.PrintWords Go.Proofs.YtfahoomkpammiaaW.PrintLast Go.Proofs.YtfahoomkpammiaaW.PrintMore Go.Proofs.Ytfahoomkpammiaa.PHistOrders

/-- what the maker of a key gave it -/
def givenV (cs : List S70) (mk : Mk) (k : Int) : Option ByteArray := (mk k).map fun n => (rd_T70 cs n).f2.f2
def snapB (cs : List S70) (mk : Mk) (ks : List Int) (vs : List ByteArray) (n : Nat) : Prop := ∀ j, j < n → givenV cs mk (ks.getD j 0) = some (vs.getD j ⟨#[]⟩)
instance (cs : List S70) (mk : Mk) (ks : List Int) (vs : List ByteArray) (n : Nat) : Decidable (snapB cs mk ks vs n) := by unfold snapB; infer_instance
def fitsB (cs : List S70) (mk : Mk) (c : S70) : Bool :=
  if c.f2.f0 = 1 then (mk c.f2.f1).isSome
  else if c.f2.f0 = 2 then !c.f3.f0 || decide (givenV cs mk c.f2.f1 = some c.f3.f1)
  else decide (snapB cs mk c.f3.f2 c.f3.f3 c.f3.f2.length)

theorem str_eq {s t : ByteArray} : (s.toList == t.toList) = true ↔ s = t := by
  constructor
  · intro h
    exact (Lib.bytes_beq_iff _ _).1 h
  · rintro rfl
    simp
theorem str_forms (s t : ByteArray) : (s = t ∧ (s.toList == t.toList) = true ∧ (s.toList != t.toList) = false) ∨ (s ≠ t ∧ (s.toList == t.toList) = false ∧ (s.toList != t.toList) = true) := by
  by_cases h : s = t
  · exact .inl ⟨h, str_eq.2 h, by rw [bne, str_eq.2 h]; rfl⟩
  · have : (s.toList == t.toList) = false := by
      cases q : (s.toList == t.toList)
      · rfl
      · exact absurd (str_eq.1 q) h
    exact .inr ⟨h, this, by rw [bne, this]; rfl⟩
theorem value_any {w : World} {p : Nat} {cs : List S70} {mk : Mk} {A : Option Addr} {c b : Nat} (h : BookAt w p cs mk A c b) (key : Int) :
    Calls Try.prog 59 #[.pointer (some ⟨p, 0, none⟩), .int .i64 key] w fun e w' => ∃ v o, e = .returned (.tuple #[.string v, .bool o]) ∧ w = w' := by
  cases hmk : mk key with
  | none => exact (value_none h key hmk).mono fun e w' q => ⟨_, _, q.1, q.2⟩
  | some n => exact (value_some h key n hmk).mono fun e w' q => ⟨_, _, q.1, q.2⟩
theorem snapB_succ {cs : List S70} {mk : Mk} {ks : List Int} {vs : List ByteArray} {n : Nat} (h : snapB cs mk ks vs n) (hn : givenV cs mk (ks.getD n 0) = some (vs.getD n ⟨#[]⟩)) : snapB cs mk ks vs (n + 1) := fun j hj => by
  rcases Nat.lt_or_ge j n with q | q
  · exact h j q
  · obtain rfl : j = n := by omega
    exact hn

set_option maxRecDepth 100000 in
set_option maxHeartbeats 1000000 in
theorem fits_pub {w : World} {p : Nat} {cs : List S70} {mk : Mk} {A : Option Addr} {cc b : Nat} (h : BookAt w p cs mk A cc b) (c : S70) (A7 : Option Addr) (c7 : Nat) (A8 : Option Addr) (c8 : Nat) (hk : c.f2.f0 = 1) :
    Calls Try.prog 45 #[.pointer (some ⟨p, 0, none⟩), callV c A7 c7 A8 c8] w fun e w' => e = .returned (.bool (fitsB cs mk c)) ∧ Below w.heap.size w w' := by
  have hf : fitsB cs mk c = (mk c.f2.f1).isSome := by unfold fitsB; rw [if_pos hk]
  rw [hf]
  unfold callV
  rw [hk]
  have H := Lib.hid h
  clear h hf hk
  have hu := Try.underlying65
  have hu3 := Try.underlying40
  have hu4 := Try.underlying43
  cases hmk : mk c.f2.f1 with
  | none =>
    have HM := Lib.hid hmk
    clear hmk
    go_enter Try.func45, Try.ntmps45
    go_wp2_with fail
    refine (value_none (H.out.below (below_alloc (Below.refl _ _) _)) c.f2.f1 HM.out).mono ?_
    rintro e w1 ⟨rfl, rfl⟩
    go_wp2_with fail
    go_ret
    exact ⟨rfl, below_alloc (Below.refl _ _) _⟩
  | some n =>
    have HM := Lib.hid hmk
    clear hmk
    go_enter Try.func45, Try.ntmps45
    go_wp2_with fail
    refine (value_some (H.out.below (below_alloc (Below.refl _ _) _)) c.f2.f1 n HM.out).mono ?_
    rintro e w1 ⟨rfl, rfl⟩
    go_wp2_with fail
    go_ret
    exact ⟨rfl, below_alloc (Below.refl _ _) _⟩

set_option maxRecDepth 100000 in
set_option maxHeartbeats 1000000 in
theorem fits_look {w : World} {p : Nat} {cs : List S70} {mk : Mk} {A : Option Addr} {cc b : Nat} (h : BookAt w p cs mk A cc b) (c : S70) (A7 : Option Addr) (c7 : Nat) (A8 : Option Addr) (c8 : Nat) (hk : c.f2.f0 = 2) :
    Calls Try.prog 45 #[.pointer (some ⟨p, 0, none⟩), callV c A7 c7 A8 c8] w fun e w' => e = .returned (.bool (fitsB cs mk c)) ∧ Below w.heap.size w w' := by
  have hf : fitsB cs mk c = (!c.f3.f0 || decide (givenV cs mk c.f2.f1 = some c.f3.f1)) := by unfold fitsB; rw [if_neg (by omega), if_pos hk]
  unfold givenV at hf
  unfold callV
  rw [hk]
  have H := Lib.hid h
  clear h hk
  have hu := Try.underlying65
  have hu3 := Try.underlying40
  have hu4 := Try.underlying43
  cases hmk : mk c.f2.f1 with
  | none =>
    have HM := Lib.hid hmk
    have hf2 : fitsB cs mk c = !c.f3.f0 := by rw [hf, hmk]; simp
    rw [hf2]
    clear hmk hf hf2
    cases hb : c.f3.f0 with
    | false =>
      have HB := Lib.hid hb
      clear hb
      go_enter Try.func45, Try.ntmps45
      go_wp2_with fail
      refine (value_none (H.out.below (below_alloc (Below.refl _ _) _)) c.f2.f1 HM.out).mono ?_
      rintro e w1 ⟨rfl, rfl⟩
      go_wp2_with fail
      go_ret
      exact ⟨rfl, below_alloc (Below.refl _ _) _⟩
    | true =>
      have HB := Lib.hid hb
      clear hb
      go_enter Try.func45, Try.ntmps45
      go_wp2_with fail
      refine (value_none (H.out.below (below_alloc (Below.refl _ _) _)) c.f2.f1 HM.out).mono ?_
      rintro e w1 ⟨rfl, rfl⟩
      go_wp2_with fail
      go_ret
      exact ⟨by simp, below_alloc (Below.refl _ _) _⟩
  | some n =>
    have HM := Lib.hid hmk
    have hq := str_forms (rd_T70 cs n).f2.f2 c.f3.f1
    obtain ⟨v, hv⟩ : ∃ v, v = (rd_T70 cs n).f2.f2 := ⟨_, rfl⟩
    rw [← hv] at hq
    have HV := Lib.hid hv
    have hg : fitsB cs mk c = (!c.f3.f0 || decide (v = c.f3.f1)) := by rw [hf, hmk, hv]; simp
    rw [hg]
    clear hv hg hf hmk
    rcases hq with ⟨h1, h2, h3⟩ | ⟨h1, h2, h3⟩
    · have hd : decide (v = c.f3.f1) = true := decide_eq_true h1
      rw [hd]
      clear hd h1
      cases hb : c.f3.f0 with
      | false =>
        have HB := Lib.hid hb
        clear hb
        go_enter Try.func45, Try.ntmps45
        go_wp2_with fail
        refine (value_some (H.out.below (below_alloc (Below.refl _ _) _)) c.f2.f1 n HM.out).mono ?_
        rw [← HV.out]
        rintro e w1 ⟨rfl, rfl⟩
        go_wp2_with fail
        go_ret
        exact ⟨rfl, below_alloc (Below.refl _ _) _⟩
      | true =>
        have HB := Lib.hid hb
        clear hb
        go_enter Try.func45, Try.ntmps45
        go_wp2_with fail
        refine (value_some (H.out.below (below_alloc (Below.refl _ _) _)) c.f2.f1 n HM.out).mono ?_
        rw [← HV.out]
        rintro e w1 ⟨rfl, rfl⟩
        go_wp2_with fail
        go_ret
        exact ⟨rfl, below_alloc (Below.refl _ _) _⟩
    · have hd : decide (v = c.f3.f1) = false := decide_eq_false h1
      rw [hd]
      clear hd h1
      cases hb : c.f3.f0 with
      | false =>
        have HB := Lib.hid hb
        clear hb
        go_enter Try.func45, Try.ntmps45
        go_wp2_with fail
        refine (value_some (H.out.below (below_alloc (Below.refl _ _) _)) c.f2.f1 n HM.out).mono ?_
        rw [← HV.out]
        rintro e w1 ⟨rfl, rfl⟩
        go_wp2_with fail
        go_ret
        exact ⟨rfl, below_alloc (Below.refl _ _) _⟩
      | true =>
        have HB := Lib.hid hb
        clear hb
        go_enter Try.func45, Try.ntmps45
        go_wp2_with fail
        refine (value_some (H.out.below (below_alloc (Below.refl _ _) _)) c.f2.f1 n HM.out).mono ?_
        rw [← HV.out]
        rintro e w1 ⟨rfl, rfl⟩
        go_wp2_with fail
        go_ret
        exact ⟨rfl, below_alloc (Below.refl _ _) _⟩

set_option maxRecDepth 100000 in
set_option maxHeartbeats 1000000 in
theorem fits_snap {w : World} {p : Nat} {cs : List S70} {mk : Mk} {A : Option Addr} {cc b : Nat} (h : BookAt w p cs mk A cc b) (c : S70) (A7 : Option Addr) (c7 : Nat) (A8 : Option Addr) (c8 : Nat) (k1 : c.f2.f0 ≠ 1) (k2 : c.f2.f0 ≠ 2)
    (l7 : c.f3.f2.length ≤ c7) (g7 : (Kd.int .i64).C w A7 c.f3.f2.length c.f3.f2) (l8 : c.f3.f3.length ≤ c8) (g8 : Kd.string.C w A8 c.f3.f3.length c.f3.f3) (hl : c.f3.f2.length = c.f3.f3.length) (hm : c.f3.f2.length ≤ 9223372036854775807) :
    Calls Try.prog 45 #[.pointer (some ⟨p, 0, none⟩), callV c A7 c7 A8 c8] w fun e w' => e = .returned (.bool (fitsB cs mk c)) ∧ Below w.heap.size w w' := by
  have hf : fitsB cs mk c = decide (snapB cs mk c.f3.f2 c.f3.f3 c.f3.f2.length) := by unfold fitsB; rw [if_neg k1, if_neg k2]
  rw [hf]
  unfold callV
  have H := Lib.hid h
  obtain ⟨a1, a2, a3, _⟩ := ne_forms k1
  obtain ⟨b1, b2, b3, _⟩ := ne_forms k2
  rw [← hl]
  have HG := Lib.hid (And.intro l7 (And.intro g7 (And.intro l8 (And.intro g8 hl))))
  clear h hf k1 k2 l7 g7 l8 g8 hl
  have hu := Try.underlying65
  have hu3 := Try.underlying40
  have hu4 := Try.underlying43
  go_enter Try.func45, Try.ntmps45
  go_wp2_with fail
  refine (value_any (H.out.below (below_alloc (Below.refl _ _) _)) c.f2.f1).mono ?_
  rintro e w1 ⟨v0, o0, rfl, rfl⟩
  go_wp2_with fail
  go_loop [45] (fun s => ∃ k : Nat, k ≤ c.f3.f2.length ∧ s = .int .i64 k ∧ snapB cs mk c.f3.f2 c.f3.f3 k) (fun s => c.f3.f2.length - (intOf s).toNat)
  case atStart => exact ⟨0, Nat.zero_le _, rfl, fun j hj => by omega⟩
  case round =>
    obtain ⟨k, hk, rfl, hs⟩ := hrel
    have HS := Lib.hid hs
    clear hs
    by_cases hlt : k < c.f3.f2.length
    · have hlt2 : k < c.f3.f3.length := by rw [← HG.out.2.2.2.2]; exact hlt
      have hlD : decide ((k : Int) < (c.f3.f2.length : Int)) = true := by simp; omega
      obtain ⟨ad, e7, x7⟩ := Kd.at_int HG.out.2.1 (k : Int) (by omega) (by omega)
      obtain ⟨ae, e8, x8⟩ := Kd.at_string HG.out.2.2.2.1 (k : Int) (by omega) (by omega)
      subst e7
      subst e8
      simp only [Int.toNat_natCast] at x7 x8
      have pa := World.block_lt_of_cell? w _ x7
      have pb := World.block_lt_of_cell? w _ x8

      obtain ⟨u, hu⟩ : ∃ u, u = rd c.f3.f2 (k : Int) := ⟨_, rfl⟩
      obtain ⟨v, hv⟩ : ∃ v, v = rdOf ByteArray.empty c.f3.f3 (k : Int) := ⟨_, rfl⟩
      rw [← hu] at x7
      rw [← hv] at x8
      have HU := Lib.hid (show c.f3.f2.getD k 0 = u ∧ c.f3.f3.getD k ⟨#[]⟩ = v from ⟨hu.symm, hv.symm⟩)
      clear hu hv
      cases hmk : mk u with
      | none =>
        have HM := Lib.hid hmk
        clear hmk
        go_wp2_with fail
        refine (value_none (H.out.below (below_alloc (Below.refl _ _) _)) u HM.out).mono ?_
        rintro e w1 ⟨rfl, rfl⟩
        go_wp2_with fail
        go_ret
        refine ⟨?_, below_alloc (Below.refl _ _) _⟩
        rw [decide_eq_false]
        · rfl
        · intro q
          have := q k hlt
          rw [HU.out.1] at this
          unfold givenV at this
          rw [HM.out] at this
          cases this
      | some n =>
        have hq := str_forms (rd_T70 cs n).f2.f2 v
        have HM := Lib.hid hmk
        clear hmk
        obtain ⟨x, hx⟩ : ∃ x, x = (rd_T70 cs n).f2.f2 := ⟨_, rfl⟩
        rw [← hx] at hq
        have HX := Lib.hid hx
        clear hx
        rcases hq with ⟨h1, h2, h3⟩ | ⟨h1, h2, h3⟩
        · have H1 := Lib.hid h1
          clear h1
          go_wp2_with fail
          refine (value_some (H.out.below (below_alloc (Below.refl _ _) _)) u n HM.out).mono ?_
          rw [← HX.out]
          rintro e w1 ⟨rfl, rfl⟩
          go_wp2_with fail
          go_round
          case rel => exact ⟨k + 1, hlt, by go_num, snapB_succ HS.out (by rw [HU.out.1, HU.out.2]; unfold givenV; rw [HM.out, ← H1.out, HX.out]; rfl)⟩
          case measure => simp [intOf]; omega
        · have H1 := Lib.hid h1
          clear h1
          go_wp2_with fail
          refine (value_some (H.out.below (below_alloc (Below.refl _ _) _)) u n HM.out).mono ?_
          rw [← HX.out]
          rintro e w1 ⟨rfl, rfl⟩
          go_wp2_with fail
          go_ret
          refine ⟨?_, below_alloc (Below.refl _ _) _⟩
          rw [decide_eq_false]
          · rfl
          · intro q
            have := q k hlt
            rw [HU.out.1, HU.out.2] at this
            unfold givenV at this
            rw [HM.out] at this
            exact H1.out (by rw [HX.out]; simpa using this)
    · obtain rfl : k = c.f3.f2.length := by omega
      go_wp2_with fail
      go_ret
      exact ⟨by rw [decide_eq_true HS.out]; rfl, below_alloc (Below.refl _ _) _⟩
theorem fits_calls {w : World} {p : Nat} {cs : List S70} {mk : Mk} {A : Option Addr} {cc b : Nat} (h : BookAt w p cs mk A cc b) (c : S70) (A7 : Option Addr) (c7 : Nat) (A8 : Option Addr) (c8 : Nat)
    (l7 : c.f3.f2.length ≤ c7) (g7 : (Kd.int .i64).C w A7 c.f3.f2.length c.f3.f2) (l8 : c.f3.f3.length ≤ c8) (g8 : Kd.string.C w A8 c.f3.f3.length c.f3.f3) (hl : c.f2.f0 ≠ 1 → c.f2.f0 ≠ 2 → c.f3.f2.length = c.f3.f3.length) (hm : c.f3.f2.length ≤ 9223372036854775807) :
    Calls Try.prog 45 #[.pointer (some ⟨p, 0, none⟩), callV c A7 c7 A8 c8] w fun e w' => e = .returned (.bool (fitsB cs mk c)) ∧ Below w.heap.size w w' := by
  by_cases k1 : c.f2.f0 = 1
  · exact fits_pub h c A7 c7 A8 c8 k1
  · by_cases k2 : c.f2.f0 = 2
    · exact fits_look h c A7 c7 A8 c8 k2
    · exact fits_snap h c A7 c7 A8 c8 k1 k2 l7 g7 l8 g8 (hl k1 k2) hm
end Go.Proofs.Ytfahoomkpammiaa
