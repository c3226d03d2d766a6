/- A step towards the laws on histories: the function that behind hands back, as an iterator. No conditions of its own beyond those that its theorems name. -/
import Derived.Test.YtfahoomkpammiaaHBehind
import Derived.BigGuardPartIn
namespace Go.Proofs.Ytfahoomkpammiaa
open Go.RowKit Go.MapKept Go.Shelf Go.Proofs.YtfahoomkpammiaaW.PrintWords Go.Proofs.YtfahoomkpammiaaW.PrintLast Go.Proofs.YtfahoomkpammiaaW.PrintMore Go.Proofs.Ytfahoomkpammiaa.PHistOrders
attribute [local go_sem] Oper.semAt_some

structure St (w0 W : World) (nb p : Nat) (cs : List S70) (mk : Mk) (A : Option Addr) (cc b i : Nat) (E7 : Option Addr) (e7 : Nat) (E8 : Option Addr) (e8 : Nat) : Prop where
  book : BookAt W p cs mk A cc b
  laid : Laid W nb p i (rd_T70 cs i) E7 e7 E8 e8
  l7 : (rd_T70 cs i).f3.f2.length ≤ e7
  g7 : (Kd.int .i64).C W E7 (rd_T70 cs i).f3.f2.length (rd_T70 cs i).f3.f2
  base : Below w0.heap.size w0 W
theorem St.below {w0 W W1 : World} {nb p : Nat} {cs : List S70} {mk : Mk} {A : Option Addr} {cc b i : Nat} {E7 : Option Addr} {e7 : Nat} {E8 : Option Addr} {e8 : Nat} (h : St w0 W nb p cs mk A cc b i E7 e7 E8 e8) (hb : Below W.heap.size W W1) : St w0 W1 nb p cs mk A cc b i E7 e7 E8 e8 :=
  ⟨h.book.below hb, h.laid.of fun x hx => hb.block x (by rcases hx with rfl | rfl | rfl; exact blk_lt h.laid.b; exact blk_lt h.laid.i; exact blk_lt h.laid.c), h.l7, Kd.C_below h.g7 hb, below_step h.base hb⟩
theorem grown_none {W W1 : World} (hb : Below W.heap.size W W1) : W.grownBy W1 none := ⟨hb.os, hb.tape, hb.output, hb.size, fun k hk _ => hb.block k hk⟩

theorem J_below {β : Type} {B : Nat} {J : β → World → Prop} (hJ : AbidesFrom B J) {s : β} {W W1 : World} (h : J s W) (hb : Below W.heap.size W W1) : J s W1 := hJ s W W1 none h (grown_none hb) fun r e => by cases e

theorem aheadTo_yes {cs : List S70} {mk : Mk} {n i m : Nat} (h : m + 1 ≤ n) (he : edgeB cs mk m i = true) : aheadTo cs mk n i (m + 1) h = aheadTo cs mk n i m (by omega) ++ [⟨m, h⟩] := by
  show aheadTo cs mk n i m _ ++ (if edgeB cs mk m i = true then [(⟨m, h⟩ : Nth n)] else []) = _
  rw [if_pos he]
theorem aheadTo_no {cs : List S70} {mk : Mk} {n i m : Nat} (h : m + 1 ≤ n) (he : edgeB cs mk m i = false) : aheadTo cs mk n i (m + 1) h = aheadTo cs mk n i m (by omega) := by
  show aheadTo cs mk n i m _ ++ (if edgeB cs mk m i = true then [(⟨m, h⟩ : Nth n)] else []) = _
  rw [if_neg (by rw [he]; simp), List.append_nil]

set_option maxRecDepth 100000 in
set_option maxHeartbeats 4000000 in
theorem behind_in (n : Nat) (hn : 1 ≤ n) (w0 : World) (nb p : Nat) (cs : List S70) (mk : Mk) (A : Option Addr) (cc b i : Nat) (hi : i < cs.length) (E7 : Option Addr) (e7 : Nat) (E8 : Option Addr) (e8 : Nat)
    (hK : ∀ j, j < cs.length → (rd_T70 cs j).f3.f2.length ≤ 9223372036854775807)
    (l : Nat) (J Jx : List (Nth cs.length) → World → Prop) (W : World) (hJ : AbidesFrom W.heap.size J)
    (hY : ∀ (pre : List (Nth cs.length)) (x : Nth cs.length) (W1 : World), J pre W1 → pre.length < cs.length → YieldAt Fence.wide (n - 1) Try.prog l #[.int .i64 (x.1 : Int)] W1 fun e W' =>
      (e = .returned (.bool true) ∧ J (pre ++ [x]) W' ∧ Kp w0.heap.size nb W1 W') ∨ (e = .returned (.bool false) ∧ Jx (pre ++ [x]) W'))
    (hkeep : ∀ W1 W', St w0 W1 nb p cs mk A cc b i E7 e7 E8 e8 → Kp w0.heap.size nb W1 W' → St w0 W' nb p cs mk A cc b i E7 e7 E8 e8)
    (hS : St w0 W nb p cs mk A cc b i E7 e7 E8 e8) (h0 : J [] W) :
    CallsIn Fence.wide n Try.prog 46 #[.func (.yield l) #[] #[], .pointer (some ⟨nb, 0, none⟩), .pointer (some ⟨nb + 1, 0, none⟩), .pointer (some ⟨nb + 2, 0, none⟩)] W fun e W' =>
      (∃ v, e = .returned v) ∧ ((∃ xs, xs = aheadTo cs mk cs.length i cs.length (Nat.le_refl _) ∧ J xs W') ∨ (∃ pre, True ∧ Jx pre W')) := by
  have hcl : cs.length ≤ 2147483647 := hS.book.len
  have c0 := blk_cell hS.book.blk (i := 0) rfl
  have b0 := blk_cell hS.laid.b (i := 0) rfl
  have hu := Try.underlying65
  have hu2 := Try.underlying58
  have HH := Lib.hid (And.intro hJ (And.intro hY (And.intro hkeep (And.intro hS h0))))
  clear hJ hY hkeep hS h0
  refine callsIn_of_wp Try.func46 rfl trivial ?_ rfl
  simp only [Try.ntmps46, List.size_toArray, List.length_cons, List.length_nil, Nat.reduceAdd, Nat.reduceSub, Array.replicate_succ, Array.replicate_zero, List.push_toArray, List.append_toArray, List.nil_append, List.cons_append]
  gi_wp2
  gi_loopw [12] (fun s wr => ∃ k : Nat, ∃ hk : k ≤ cs.length, s = .int .i64 k ∧ J (aheadTo cs mk cs.length i k hk) wr ∧ St w0 wr nb p cs mk A cc b i E7 e7 E8 e8)
    (fun s _ => cs.length - (intOf s).toNat)
  case atStart => exact ⟨0, Nat.zero_le _, rfl, HH.out.2.2.2.2, HH.out.2.2.2.1⟩
  case round =>
    obtain ⟨k, hk, rfl, hJs, hSt⟩ := hrel
    have HS := Lib.hid (And.intro hJs hSt)
    clear hJs hSt
    by_cases hlt : k < cs.length
    · have hlD : decide ((k : Int) < (cs.length : Int)) = true := by simp; omega
      have hal := aheadTo_len cs mk cs.length i k hk
      obtain ⟨ad, F7, f7, F8, f8, hA, q0, q1, q2, q3, q4, q5, q6, q7, q8, m7, g7, m8, g8⟩ := at_T70 (w := wr) HS.out.2.book.row k (by omega) (by omega)
      subst hA
      simp only [Int.toNat_natCast] at q0 q1 q2 q3 q4 q5 q6 q7 q8
      have pa := World.block_lt_of_cell? wr _ q2
      dsimp only at pa
      have HG := Lib.hid (And.intro m7 g7)
      clear m7 g7 m8 g8
      obtain ⟨d, hd⟩ : ∃ d, d = rd_T70 cs k := ⟨_, rfl⟩
      rw [← hd] at q0 q1 q2 q3 q4 q5 q6 q7 q8
      have HD := Lib.hid hd
      clear hd
      have s0 := blk_cell HS.out.2.laid.b (i := 0) rfl
      have s1 := blk_cell HS.out.2.laid.i (i := 0) rfl
      have y0 := blk_cell HS.out.2.laid.c (i := 0) rfl
      have y1 := blk_cell HS.out.2.laid.c (i := 1) rfl
      have y2 := blk_cell HS.out.2.laid.c (i := 2) rfl
      have y3 := blk_cell HS.out.2.laid.c (i := 3) rfl
      have y4 := blk_cell HS.out.2.laid.c (i := 4) rfl
      have y5 := blk_cell HS.out.2.laid.c (i := 5) rfl
      have y6 := blk_cell HS.out.2.laid.c (i := 6) rfl
      have y7 := blk_cell HS.out.2.laid.c (i := 7) rfl
      have y8 := blk_cell HS.out.2.laid.c (i := 8) rfl
      have n0 := blk_lt HS.out.2.laid.b
      have n1 := blk_lt HS.out.2.laid.i
      have n2 := blk_lt HS.out.2.laid.c
      obtain ⟨c, hc⟩ : ∃ c, c = rd_T70 cs i := ⟨_, rfl⟩
      rw [← hc] at y0 y1 y2 y3 y4 y5 y6 y7 y8
      have HC := Lib.hid hc
      clear hc c0 b0
      by_cases hki : k = i
      · have HE : Hid (edgeB cs mk k i = false) := Lib.hid (by unfold edgeB; simp [hki])
        have e1 : ((k : Int) == (i : Int)) = true := by simp [hki]
        have e2 : ((k : Int) != (i : Int)) = false := by simp [hki]
        have e3 : (k == i) = true := by simp [hki]
        have e4 : (k != i) = false := by simp [hki]
        have HKI := Lib.hid hki
        clear hki
        gi_wp2
        iterate 4 (all_goals first | (exfalso; rename_i x b h1 h2; cases h1; done) | (refine ⟨trivial, ?_⟩; gi_wp2) | (refine ⟨fun _ q => (by cases q), ?_⟩; gi_wp2) | skip)
        go_roundw
        case rel => exact ⟨k + 1, hlt, by go_num, by rw [aheadTo_no hlt HE.out]; exact J_below HH.out.1 HS.out.1 (below_alloc (Below.refl _ _) _), HS.out.2.below (below_alloc (Below.refl _ _) _)⟩
        case measure => simp [intOf]; omega
      · obtain ⟨e1, e2, e3, _⟩ := ne_forms (show (k : Int) ≠ (i : Int) by omega)
        obtain ⟨e4, e5, e6⟩ := nat_ne_forms hki
        have HKI := Lib.hid hki
        clear hki
        by_cases hto : d.f1 < c.f0
        · have HE : Hid (edgeB cs mk k i = true) := Lib.hid (by unfold edgeB; rw [← HD.out, ← HC.out]; simp [HKI.out, hto])
          have t1 : decide (d.f1 < c.f0) = true := decide_eq_true hto
          have HTO := Lib.hid hto
          clear hto
          obtain ⟨fn, tmps, assign, body, hy, hR⟩ := HH.out.2.1 _ (⟨k, hlt⟩ : Nth cs.length) (wr.alloc (.cells #[.int .i64 d.f0, .int .i64 d.f1, .int .i64 d.f2.f0, .int .i64 d.f2.f1, .string d.f2.f2, .bool d.f3.f0, .string d.f3.f1, .slice F7 d.f3.f2.length f7, .slice F8 d.f3.f3.length f8] 65)) (J_below HH.out.1 HS.out.1 (below_alloc (Below.refl _ _) _)) (by omega)
          dsimp only at hy
          have HR := Lib.hid hR
          clear hR hal
          gi_wp2
          iterate 2 (all_goals first | (exfalso; rename_i x b h1 h2; cases h1; done) | (refine ⟨trivial, ?_⟩; gi_wp2) | (refine ⟨fun _ q => (by cases q), ?_⟩; gi_wp2) | skip)
          refine HR.out.mono ?_
          rintro e W3 (⟨rfl, hJ3, hk3⟩ | ⟨rfl, hJx3⟩)
          · have H3 := Lib.hid (And.intro hJ3 hk3)
            clear hJ3 hk3
            gi_wp2
            go_roundw
            case rel => exact ⟨k + 1, hlt, by go_num, by rw [aheadTo_yes hlt HE.out]; exact H3.out.1, HH.out.2.2.1 _ _ (HS.out.2.below (below_alloc (Below.refl _ _) _)) H3.out.2⟩
            case measure => simp [intOf]; omega
          · gi_wp2
            refine bodyPost_ret (results_none rfl _ _ _) rfl ?_
            exact ⟨⟨_, rfl⟩, .inr ⟨_, trivial, hJx3⟩⟩
        · have t1 : decide (d.f1 < c.f0) = false := decide_eq_false hto
          have HTO := Lib.hid hto
          clear hto
          gi_wp2
          all_goals first | (exfalso; rename_i x b h1 h2; cases h1; done) | skip
          refine ⟨trivial, ?_⟩
          refine (callsIn_wide.2 (saw_calls (HS.out.2.book.below (below_alloc (Below.refl _ _) _)) c E7 e7 E8 e8 (by rw [HC.out]; exact HS.out.2.l7) (by rw [HC.out]; exact Kd.C_below HS.out.2.g7 (below_alloc (Below.refl _ _) _)) (by rw [HC.out]; exact hK i hi) k hlt)).mono ?_
          rintro e w1 ⟨rfl, hb1⟩
          have hS1 := (HS.out.2.below (below_alloc (Below.refl wr.heap.size wr) (.cells #[.int .i64 d.f0, .int .i64 d.f1, .int .i64 d.f2.f0, .int .i64 d.f2.f1, .string d.f2.f2, .bool d.f3.f0, .string d.f3.f1, .slice F7 d.f3.f2.length f7, .slice F8 d.f3.f3.length f8] 65))).below hb1
          have hbx := blk_below (blk_new wr (.cells #[.int .i64 d.f0, .int .i64 d.f1, .int .i64 d.f2.f0, .int .i64 d.f2.f1, .string d.f2.f2, .bool d.f3.f0, .string d.f3.f1, .slice F7 d.f3.f2.length f7, .slice F8 d.f3.f3.length f8] 65)) hb1
          have HW1 := Lib.hid (And.intro hb1 (And.intro hbx hS1))
          clear hb1 hbx hS1 q0 q1 q2 q3 q4 q5 q6 q7 q8 s0 s1 y0 y1 y2 y3 y4 y5 y6 y7 y8 n0 n1 n2 pa
          cases hsaw : sawB cs mk c k with
          | true =>
            have HE : Hid (edgeB cs mk k i = true) := Lib.hid (by unfold edgeB; rw [← HD.out, ← HC.out, hsaw]; simp [HKI.out])
            have HSAW := Lib.hid hsaw
            clear hsaw
            obtain ⟨fn, tmps, assign, body, hy, hR⟩ := HH.out.2.1 _ (⟨k, hlt⟩ : Nth cs.length) w1 (J_below HH.out.1 HS.out.1 (below_step (below_alloc (Below.refl _ _) _) HW1.out.1)) (by omega)
            dsimp only at hy
            have HR := Lib.hid hR
            clear hR hal
            gi_wp2
            all_goals first | (exfalso; rename_i x b h1 h2; cases h1; done) | (refine ⟨trivial, ?_⟩; gi_wp2)
            refine HR.out.mono ?_
            rintro e W3 (⟨rfl, hJ3, hk3⟩ | ⟨rfl, hJx3⟩)
            · have H3 := Lib.hid (And.intro hJ3 hk3)
              clear hJ3 hk3
              gi_wp2
              go_roundw
              case rel => exact ⟨k + 1, hlt, by go_num, by rw [aheadTo_yes hlt HE.out]; exact H3.out.1, HH.out.2.2.1 _ _ HW1.out.2.2 H3.out.2⟩
              case measure => simp [intOf]; omega
            · gi_wp2
              refine bodyPost_ret (results_none rfl _ _ _) rfl ?_
              exact ⟨⟨_, rfl⟩, .inr ⟨_, trivial, hJx3⟩⟩
          | false =>
            have HSAW := Lib.hid hsaw
            clear hsaw
            have s0 := blk_cell HW1.out.2.2.laid.b (i := 0) rfl
            have s1 := blk_cell HW1.out.2.2.laid.i (i := 0) rfl
            have x0 := blk_cell HW1.out.2.1 (i := 0) rfl
            have x1 := blk_cell HW1.out.2.1 (i := 1) rfl
            have x2 := blk_cell HW1.out.2.1 (i := 2) rfl
            have x3 := blk_cell HW1.out.2.1 (i := 3) rfl
            have x4 := blk_cell HW1.out.2.1 (i := 4) rfl
            have x5 := blk_cell HW1.out.2.1 (i := 5) rfl
            have x6 := blk_cell HW1.out.2.1 (i := 6) rfl
            have x7 := blk_cell HW1.out.2.1 (i := 7) rfl
            have x8 := blk_cell HW1.out.2.1 (i := 8) rfl
            gi_wp2
            refine ⟨trivial, ?_⟩
            refine (callsIn_wide.2 (missed_calls HW1.out.2.2.book d F7 f7 F8 f8 (by rw [HD.out]; exact HG.out.1) (by rw [HD.out]; exact Kd.C_below (Kd.C_below HG.out.2 (below_alloc (Below.refl _ _) _)) HW1.out.1) (by rw [HD.out]; exact hK k hlt) i hi)).mono ?_
            rintro e w2 ⟨rfl, hb2⟩
            have HW2 := Lib.hid (And.intro hb2 (HW1.out.2.2.below hb2))
            clear hb2 s0 s1 x0 x1 x2 x3 x4 x5 x6 x7 x8
            cases hmis : missedB cs mk d i with
            | true =>
              have HE : Hid (edgeB cs mk k i = true) := Lib.hid (by unfold edgeB; rw [← HD.out, ← HC.out, hmis]; simp [HKI.out])
              have HMIS := Lib.hid hmis
              clear hmis
              obtain ⟨fn, tmps, assign, body, hy, hR⟩ := HH.out.2.1 _ (⟨k, hlt⟩ : Nth cs.length) w2 (J_below HH.out.1 HS.out.1 (below_step (below_step (below_alloc (Below.refl _ _) _) HW1.out.1) HW2.out.1)) (by omega)
              dsimp only at hy
              have HR := Lib.hid hR
              clear hR hal
              gi_wp2
              refine HR.out.mono ?_
              rintro e W3 (⟨rfl, hJ3, hk3⟩ | ⟨rfl, hJx3⟩)
              · have H3 := Lib.hid (And.intro hJ3 hk3)
                clear hJ3 hk3
                gi_wp2
                go_roundw
                case rel => exact ⟨k + 1, hlt, by go_num, by rw [aheadTo_yes hlt HE.out]; exact H3.out.1, HH.out.2.2.1 _ _ HW2.out.2 H3.out.2⟩
                case measure => simp [intOf]; omega
              · gi_wp2
                refine bodyPost_ret (results_none rfl _ _ _) rfl ?_
                exact ⟨⟨_, rfl⟩, .inr ⟨_, trivial, hJx3⟩⟩
            | false =>
              have HE : Hid (edgeB cs mk k i = false) := Lib.hid (by unfold edgeB; rw [← HD.out, ← HC.out, hmis, HSAW.out]; simp [HTO.out])
              have HMIS := Lib.hid hmis
              clear hmis
              gi_wp2
              all_goals first | (refine ⟨fun _ q => (by cases q), ?_⟩; gi_wp2) | skip
              go_roundw
              case rel => exact ⟨k + 1, hlt, by go_num, by rw [aheadTo_no hlt HE.out]; exact J_below HH.out.1 HS.out.1 (below_step (below_step (below_alloc (Below.refl _ _) _) HW1.out.1) HW2.out.1), HW2.out.2⟩
              case measure => simp [intOf]; omega
    · obtain rfl : k = cs.length := by omega
      gi_wp2
      go_end0
      exact ⟨⟨_, rfl⟩, .inl ⟨_, rfl, HS.out.1⟩⟩

theorem book_only {w W : World} {p : Nat} {cs : List S70} {mk : Mk} {A : Option Addr} {cc b : Nat} (h : BookAt w p cs mk A cc b) (hb : Below w.heap.size w W) : BookAt W p cs mk A cc b := h.below hb
theorem Kp.below {n0 nb : Nat} {W W' : World} (h : Kp n0 nb W W') : (∀ b, b < n0 → b < W.heap.size → W'.heap[b]? = W.heap[b]?) := fun _ hb hs => h.at hs (.inl hb)
/-- a loop over behind keeps the state, where the book and the lists lie below n0 -/
theorem St.keep {w0 W1 W' : World} {nb p : Nat} {cs : List S70} {mk : Mk} {A : Option Addr} {cc b i : Nat} {E7 : Option Addr} {e7 : Nat} {E8 : Option Addr} {e8 : Nat} (hb : BookAt w0 p cs mk A cc b) (g7 : (Kd.int .i64).C w0 E7 (rd_T70 cs i).f3.f2.length (rd_T70 cs i).f3.f2)
    (h : St w0 W1 nb p cs mk A cc b i E7 e7 E8 e8) (hk : Kp w0.heap.size nb W1 W') : St w0 W' nb p cs mk A cc b i E7 e7 E8 e8 := by
  have hB : Below w0.heap.size W1 W' := ⟨hk.os, hk.tape, hk.output, hk.size, fun x hx => by
    rcases Nat.lt_or_ge x W1.heap.size with q | q
    · exact hk.at q (.inl hx)
    · have := h.base.size; omega⟩
  have hB2 : Below w0.heap.size w0 W' := h.base.trans hB
  exact ⟨hb.below hB2, h.laid.of fun x hx => hk.at (by rcases hx with rfl | rfl | rfl; exact blk_lt h.laid.b; exact blk_lt h.laid.i; exact blk_lt h.laid.c) (.inr hx), h.l7, Kd.C_below g7 hB2, hB2⟩

/-- the function that behind hands back, as an iterator -/
theorem behind_stops (n : Nat) (hn : 1 ≤ n) (w0 w : World) (nb p : Nat) (cs : List S70) (mk : Mk) (A : Option Addr) (cc b i : Nat) (hi : i < cs.length) (E7 : Option Addr) (e7 : Nat) (E8 : Option Addr) (e8 : Nat)
    (hK : ∀ j, j < cs.length → (rd_T70 cs j).f3.f2.length ≤ 9223372036854775807) (hb : BookAt w0 p cs mk A cc b) (l7 : (rd_T70 cs i).f3.f2.length ≤ e7) (g7 : (Kd.int .i64).C w0 E7 (rd_T70 cs i).f3.f2.length (rd_T70 cs i).f3.f2)
    (h0 : Below w0.heap.size w0 w) (hl : Laid w nb p i (rd_T70 cs i) E7 e7 E8 e8) :
    SeqStopsK Fence.wide n Try.prog 46 #[.pointer (some ⟨nb, 0, none⟩), .pointer (some ⟨nb + 1, 0, none⟩), .pointer (some ⟨nb + 2, 0, none⟩)] (fun x : Nth cs.length => #[Value.int .i64 (x.1 : Int)]) (Kp w0.heap.size nb)
      (fun xs => xs = aheadTo cs mk cs.length i cs.length (Nat.le_refl _)) (fun _ => True) cs.length w := fun l J Jx W hW hJ _ hY hj =>
  behind_in n hn w0 nb p cs mk A cc b i hi E7 e7 E8 e8 hK l J Jx W hJ hY (fun _ _ h k => St.keep hb g7 h k) (St.below ⟨hb.below h0, hl, l7, Kd.C_below g7 h0, h0⟩ hW) hj
end Go.Proofs.Ytfahoomkpammiaa
