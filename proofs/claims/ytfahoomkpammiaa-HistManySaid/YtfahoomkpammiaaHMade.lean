/- A step towards the laws on histories: made. No conditions of its own beyond those that its theorems name. -/
import Derived.Test.YtfahoomkpammiaaHFits
import Derived.Test.YtfahoomkpammiaaHRead
namespace Go.Proofs.Ytfahoomkpammiaa
open Go.RowKit Go.MapKept Go.Proofs.YtfahoomkpammiaaW.PrintWords Go.Proofs.YtfahoomkpammiaaW.PrintLast Go.Proofs.YtfahoomkpammiaaW.PrintMore Go.Proofs.Ytfahoomkpammiaa.PHistOrders

def mstep (i : Nat) (c : S70) (mk : Mk) : Option Mk :=
  if c.f2.f0 = 1 ∧ c.f3.f0 = true then (if mk c.f2.f1 = none then some (upd1 mk c.f2.f1 (some i)) else none) else some mk
def mkAt (cs : List S70) : Nat → Option Mk
  | 0 => some fun _ => none
  | i + 1 => (mkAt cs i).bind (mstep i (rd_T70 cs i))
def allFit (cs : List S70) (mk : Mk) (n : Nat) : Prop := ∀ i, i < n → fitsB cs mk (rd_T70 cs i) = true
instance (cs : List S70) (mk : Mk) (n : Nat) : Decidable (allFit cs mk n) := by unfold allFit; infer_instance
def madeB (cs : List S70) : Option Mk := (mkAt cs cs.length).bind fun mk => if allFit cs mk cs.length then some mk else none
theorem mkAt_succ (cs : List S70) (i : Nat) : mkAt cs (i + 1) = (mkAt cs i).bind (mstep i (rd_T70 cs i)) := rfl
theorem mkAt_none {cs : List S70} {i : Nat} (h : mkAt cs i = none) : ∀ j, i ≤ j → mkAt cs j = none := by
  intro j hij
  induction hij with
  | refl => exact h
  | @step j hij ih => rw [mkAt_succ, ih]; rfl
theorem mstep_lt {i : Nat} {c : S70} {mk mk' : Mk} (h : mstep i c mk = some mk') (hm : ∀ k n, mk k = some n → n < i) : ∀ k n, mk' k = some n → n < i + 1 := by
  unfold mstep at h
  split at h
  · split at h
    · obtain rfl := Option.some.inj h
      intro k n hk
      simp only [upd1] at hk
      split at hk
      · cases hk; omega
      · have := hm k n hk; omega
    · cases h
  · obtain rfl := Option.some.inj h
    intro k n hk
    have := hm k n hk
    omega
theorem mkAt_lt {cs : List S70} : ∀ (i : Nat) (mk : Mk), mkAt cs i = some mk → ∀ k n, mk k = some n → n < i := by
  intro i
  induction i with
  | zero => intro mk h k n hk; cases h; cases hk
  | succ i ih =>
    intro mk h
    rw [mkAt_succ] at h
    obtain ⟨m1, h1, h2⟩ := Option.bind_eq_some_iff.1 h
    exact mstep_lt h2 (ih m1 h1)
theorem mkV_upd (mk : Mk) (k : Int) (i : Nat) : mkV (upd1 mk k (some i)) = fun j => if j = k then some (.int .i64 (i : Nat)) else mkV mk j := by
  funext j
  unfold mkV upd1
  split <;> rfl

/-- while the makers are looked for -/
structure MInv (w wr : World) (p : Nat) (cs : List S70) (A : Option Addr) (c : Nat) (mk : Mk) : Prop where
  blk : wr.heap[p]? = some (.cells #[.slice A cs.length c, .map (some w.heap.size)] 58 (0, 0))
  map : IMap wr w.heap.size (mkV mk)
  only : Only w wr fun b => b = p
theorem MInv.only' {w wr w1 : World} {p : Nat} {cs : List S70} {A : Option Addr} {c : Nat} {mk : Mk} (h : MInv w wr p cs A c mk) (hb : Below wr.heap.size wr w1) : MInv w w1 p cs A c mk :=
  ⟨blk_below h.blk hb, h.map.of_block (hb.block _ h.map.lt), h.only.trans (Only.of_below (S := fun _ => False) hb fun b h1 h2 => by omega) fun _ q => q.elim⟩
theorem MInv.base {w0 w wr : World} {p : Nat} {cs : List S70} {A : Option Addr} {c : Nat} {mk : Mk} (h : MInv w wr p cs A c mk) (hB : Below w0.heap.size w0 w) (hp : w0.heap.size ≤ p) : Below w0.heap.size w0 wr :=
  hB.trans (h.only.below (below_size hB) fun b e => by omega)
theorem MInv.book {w0 w wr : World} {p : Nat} {cs : List S70} {A : Option Addr} {c : Nat} {mk : Mk} (h : MInv w wr p cs A c mk) (hcap : cs.length ≤ c) (hlen : cs.length ≤ 2147483647) (hC : Kd.C k70 w0 A cs.length cs) (hB : Below w0.heap.size w0 w) (hp : w0.heap.size ≤ p) (hn : ∀ k n, mk k = some n → n < cs.length) : BookAt wr p cs mk A c w.heap.size :=
  ⟨h.blk, hcap, hlen, Kd.C_below hC (h.base hB hp), h.map, hn⟩
theorem MInv.alloc {w wr : World} {p : Nat} {cs : List S70} {A : Option Addr} {c : Nat} {mk : Mk} (h : MInv w wr p cs A c mk) (o : Obj) : MInv w (wr.alloc o) p cs A c mk := h.only' (below_alloc (Below.refl _ _) o)

theorem MInv.put {w wr w1 : World} {p : Nat} {cs : List S70} {A : Option Addr} {c : Nat} {mk : Mk} {k : Int} {i : Nat} (h : MInv w wr p cs A c mk) (hm : IMap w1 w.heap.size (fun j => if j = k then some (.int .i64 (i : Nat)) else mkV mk j)) (ht : Turned wr.drew w1 w.heap.size) : MInv w w1 p cs A c (upd1 mk k (some i)) := by
  have hne : p ≠ w.heap.size := fun e => by
    obtain ⟨es, clock, q, _⟩ := h.map
    rw [← e, h.blk] at q
    cases q
  refine ⟨(ht.2.2.2.2 p hne).trans h.blk, by rw [mkV_upd]; exact hm, (h.only.drew.trans (ht.only (S := fun b => b = w.heap.size) rfl) fun b q => .inr (Nat.le_of_eq q.symm))⟩

/-- what made answers, and leaves -/
def MadeEnd (w w' : World) (p : Nat) (cs : List S70) (A : Option Addr) (c : Nat) (e : Ending) : Prop :=
  match madeB cs with
  | none => e = .returned (.bool false)
  | some mk => e = .returned (.bool true) ∧ BookAt w' p cs mk A c w.heap.size
theorem MadeEnd.no {w w' : World} {p : Nat} {cs : List S70} {A : Option Addr} {c : Nat} {e : Ending} (h : madeB cs = none) (he : e = .returned (.bool false)) : MadeEnd w w' p cs A c e := by unfold MadeEnd; rw [h]; exact he
theorem MadeEnd.yes {w w' : World} {p : Nat} {cs : List S70} {A : Option Addr} {c : Nat} {e : Ending} {mk : Mk} (h : madeB cs = some mk) (he : e = .returned (.bool true)) (hb : BookAt w' p cs mk A c w.heap.size) : MadeEnd w w' p cs A c e := by unfold MadeEnd; rw [h]; exact ⟨he, hb⟩

set_option maxRecDepth 100000 in
set_option maxHeartbeats 2000000 in
theorem made_walk (w0 w : World) (p : Nat) (cs : List S70) (A : Option Addr) (c : Nat) (hcap : cs.length ≤ c) (hlen : cs.length ≤ 2147483647) (hC : Kd.C k70 w0 A cs.length cs) (hB : Below w0.heap.size w0 w) (hp : w0.heap.size ≤ p)
    (hb : w.heap[p]? = some (.cells #[.slice A cs.length c, .map none] 58 (0, 0)))
    (hE : ∀ i, i < cs.length → (rd_T70 cs i).f2.f0 ≠ 1 → (rd_T70 cs i).f2.f0 ≠ 2 → (rd_T70 cs i).f3.f2.length = (rd_T70 cs i).f3.f3.length) (hK : ∀ i, i < cs.length → (rd_T70 cs i).f3.f2.length ≤ 9223372036854775807) :
    Calls Try.prog 27 #[.pointer (some ⟨p, 0, none⟩)] w fun e w' => Only w w' (fun b => b = p) ∧ MadeEnd w w' p cs A c e := by
  have HC := Lib.hid (And.intro hcap (And.intro hC (And.intro hB (And.intro hp (And.intro hE hK)))))
  have c0 := blk_cell hb (i := 0) rfl
  have c1 := blk_cell hb (i := 1) rfl
  have fz := blk_frozen hb 1
  have p0 := blk_lt hb
  have HBK := Lib.hid hb
  clear hcap hC hB hp hb hE hK
  have hmm := @run_makeMap Try.prog
  have hu := Try.underlying65
  have hu2 := Try.underlying58
  have hu3 := Try.underlying40
  have hu4 := Try.underlying43
  go_enter Try.func27, Try.ntmps27
  go_wp2_with fail
  go_loopw [18] (fun s18 wr => ∃ (i : Nat) (mk : Mk), i ≤ cs.length ∧ s18 = .int .i64 i ∧ mkAt cs i = some mk ∧ MInv w wr p cs A c mk) (fun s18 _ => cs.length - (intOf s18).toNat)
  case atStart =>
    refine ⟨0, _, Nat.zero_le _, rfl, rfl, ?_, ?_, ?_⟩
    · exact blk_alloc (blk_set HBK.out 1 _) _
    · have := IMap.made (w.setCell ⟨p, 1, none⟩ (.map (some w.heap.size)))
      rw [show (w.setCell ⟨p, 1, none⟩ (.map (some w.heap.size))).heap.size = w.heap.size by simp [World.setCell]] at this
      exact this
    · exact ((Only.refl w fun b => b = p).setCell (p := ⟨p, 1, none⟩) (.inl rfl) _).alloc _
  case round =>
    obtain ⟨i, mk, hi, rfl, hat, hS⟩ := hrel
    have HS := Lib.hid (And.intro hat hS)
    clear hat hS
    have r0 := blk_cell HS.out.2.blk (i := 0) rfl
    have r1 := blk_cell HS.out.2.blk (i := 1) rfl
    have rp := blk_lt HS.out.2.blk
    clear c0 c1 fz p0
    by_cases hlt : i < cs.length
    · have hlD : decide ((i : Int) < (cs.length : Int)) = true := by simp; omega
      obtain ⟨ad, E7, e7, E8, e8, hA, q0, q1, q2, q3, q4, q5, q6, q7, q8, l7, g7, l8, g8⟩ := at_T70 HC.out.2.1 i (by omega) (by omega)
      subst hA
      have HBB := Lib.hid (HS.out.2.base HC.out.2.2.1 HC.out.2.2.2.1)
      have HG := Lib.hid (And.intro l7 (And.intro g7 (And.intro l8 g8)))
      clear l7 g7 l8 g8
      have mv : ∀ {p : Addr} {u : Value}, w0.cell? p = some u → wr.cell? p = some u := fun h => (HBB.out.cell (World.block_lt_of_cell? w0 _ h)).trans h
      simp only [Int.toNat_natCast] at q0 q1 q2 q3 q4 q5 q6 q7 q8
      replace q0 := mv q0
      replace q1 := mv q1
      replace q2 := mv q2
      replace q3 := mv q3
      replace q4 := mv q4
      replace q5 := mv q5
      replace q6 := mv q6
      replace q7 := mv q7
      replace q8 := mv q8
      clear mv
      obtain ⟨d, hd⟩ : ∃ d, d = rd_T70 cs i := ⟨_, rfl⟩
      rw [← hd] at q0 q1 q2 q3 q4 q5 q6 q7 q8
      have HD := Lib.hid hd
      clear hd
      have HST := Lib.hid (mkAt_succ cs i)
      by_cases hk1 : d.f2.f0 = 1
      · rw [hk1] at q2
        have HK1 := Lib.hid hk1
        clear hk1
        cases hok : d.f3.f0 with
        | false =>
          rw [hok] at q5
          have HOK := Lib.hid hok
          clear hok
          go_wp2_with fail
          go_roundw
          case rel => exact ⟨i + 1, mk, by omega, by go_num, by rw [HST.out, HS.out.1]; show mstep i (rd_T70 cs i) mk = _; unfold mstep; rw [← HD.out, if_neg (fun q => by rw [HOK.out] at q; cases q.2)], HS.out.2.alloc _⟩
          case measure => simp [intOf]; omega
        | true =>
          rw [hok] at q5
          have HOK := Lib.hid hok
          clear hok
          cases hmk : mk d.f2.f1 with
          | some n =>
            have HM := Lib.hid hmk
            clear hmk
            go_wp2_with fail
            refine nameW ?_
            intro V hV
            have hI : MInv w V p cs (some ad) c mk := by rw [hV]; exact HS.out.2.alloc _
            have hbx : V.heap[wr.heap.size]? = some (.cells #[.int .i64 d.f0, .int .i64 d.f1, .int .i64 1, .int .i64 d.f2.f1, .string d.f2.f2, .bool true, .string d.f3.f1, .slice E7 d.f3.f2.length e7, .slice E8 d.f3.f3.length e8] 65 (0, 0)) := by rw [hV]; exact blk_new wr _
            have hl := fun n : Nat => IMap.run_lookup2 (w := V.drewN n) Try.underlying56 Try.underlying3 (hI.map.of_block rfl) (.int .i64 0) (by kernel_rfl) d.f2.f1
            simp only [mkV_some HM.out, Option.getD_some, Option.isSome_some] at hl
            have y3 := blk_cell hbx (i := 3) rfl
            have s1 := blk_cell hI.blk (i := 1) rfl
            have HV := Lib.hid (And.intro hV hI)
            clear hV hI hbx r0 r1 rp q0 q1 q2 q3 q4 q5 q6 q7 q8
            go_quiet (fail)
            go_wp2_with fail
            go_ret
            refine ⟨HV.out.2.only.drewN _, MadeEnd.no ?_ rfl⟩
            · unfold madeB
              rw [mkAt_none (i := i + 1) (by rw [HST.out, HS.out.1]; show mstep i (rd_T70 cs i) mk = _; unfold mstep; rw [← HD.out, if_pos ⟨HK1.out, HOK.out⟩, HM.out, if_neg (by simp)]) _ (by omega)]
              rfl
          | none =>
            have HM := Lib.hid hmk
            clear hmk
            go_wp2_with fail
            refine nameW ?_
            intro V hV
            have hI : MInv w V p cs (some ad) c mk := by rw [hV]; exact HS.out.2.alloc _
            have hbx : V.heap[wr.heap.size]? = some (.cells #[.int .i64 d.f0, .int .i64 d.f1, .int .i64 1, .int .i64 d.f2.f1, .string d.f2.f2, .bool true, .string d.f3.f1, .slice E7 d.f3.f2.length e7, .slice E8 d.f3.f3.length e8] 65 (0, 0)) := by rw [hV]; exact blk_new wr _
            have hl := fun n : Nat => IMap.run_lookup2 (w := V.drewN n) Try.underlying56 Try.underlying3 (hI.map.of_block rfl) (.int .i64 0) (by kernel_rfl) d.f2.f1
            simp only [mkV_none HM.out, Option.getD_none, Option.isSome_none] at hl
            have y3 := blk_cell hbx (i := 3) rfl
            have s1 := blk_cell hI.blk (i := 1) rfl
            have HV := Lib.hid (And.intro hV (And.intro hI hbx))
            clear hV hI hbx r0 r1 rp q0 q1 q2 q3 q4 q5 q6 q7 q8
            go_quiet (fail)
            clear hl y3 s1
            go_wp2_with fail
            refine nameW ?_
            intro V2 hV2
            have hI : MInv w V2 p cs (some ad) c mk := by rw [hV2]; exact HV.out.2.1.only' (pw_below_drewN (Below.refl _ _) _)
            have hbx : V2.heap[wr.heap.size]? = some (.cells #[.int .i64 d.f0, .int .i64 d.f1, .int .i64 1, .int .i64 d.f2.f1, .string d.f2.f2, .bool true, .string d.f3.f1, .slice E7 d.f3.f2.length e7, .slice E8 d.f3.f3.length e8] 65 (0, 0)) := by rw [hV2]; exact HV.out.2.2
            have y3 := blk_cell hbx (i := 3) rfl
            have s1 := blk_cell hI.blk (i := 1) rfl
            obtain ⟨V3, hrun, hm3, hturn, hdr⟩ := IMap.run_update (w := V2.drew) Try.underlying56 Try.underlying3 (hI.map.of_block (w1 := V2.drew) rfl) d.f2.f1 (.int .i64 (i : Nat))
            have H2 := Lib.hid (And.intro hI (And.intro hm3 hturn))
            clear hI hbx hm3 hturn hdr hV2
            refine wp_region_still_tail 8 (by kernel_rfl) (by kernel_rfl) ?_
            simp only [List.take_succ_cons, List.take_zero, List.drop_succ_cons, List.drop_zero]
            repeat still_step
            refine wpStill_nil ?_
            go_wp2_with fail
            go_roundw
            case rel => exact ⟨i + 1, _, by omega, by go_num, by rw [HST.out, HS.out.1]; show mstep i (rd_T70 cs i) mk = _; unfold mstep; rw [← HD.out, if_pos ⟨HK1.out, HOK.out⟩, if_pos HM.out], H2.out.1.put H2.out.2.1 H2.out.2.2⟩
            case measure => simp [intOf]; omega
      · obtain ⟨a1, a2, a3, _⟩ := ne_forms hk1
        have HK1 := Lib.hid hk1
        clear hk1
        go_wp2_with fail
        go_roundw
        case rel => exact ⟨i + 1, mk, by omega, by go_num, by rw [HST.out, HS.out.1]; show mstep i (rd_T70 cs i) mk = _; unfold mstep; rw [← HD.out, if_neg (fun q => HK1.out q.1)], HS.out.2.alloc _⟩
        case measure => simp [intOf]; omega
    · obtain rfl : i = cs.length := by omega
      go_wp2_with fail
      obtain ⟨wo, hwo⟩ : ∃ wo : World, wo = wr := ⟨_, rfl⟩
      go_loopw [58] (fun s58 w2 => ∃ j : Nat, j ≤ cs.length ∧ s58 = .int .i64 j ∧ allFit cs mk j ∧ MInv w w2 p cs A c mk) (fun s58 _ => cs.length - (intOf s58).toNat)
      case atStart => exact ⟨0, Nat.zero_le _, rfl, fun q hq => by omega, HS.out.2⟩
      case round =>
        obtain ⟨j, hj, rfl, hfit, hS2⟩ := hrel
        have HF := Lib.hid (And.intro hfit hS2)
        clear hfit hS2 hwo r0 r1 rp
        by_cases hlt2 : j < cs.length
        · have hlD : decide ((j : Int) < (cs.length : Int)) = true := by simp; omega
          obtain ⟨ad, E7, e7, E8, e8, hA, q0, q1, q2, q3, q4, q5, q6, q7, q8, l7, g7, l8, g8⟩ := at_T70 HC.out.2.1 j (by omega) (by omega)
          subst hA
          have HBB := Lib.hid (HF.out.2.base HC.out.2.2.1 HC.out.2.2.2.1)
          have HG := Lib.hid (And.intro l7 (And.intro g7 (And.intro l8 g8)))
          clear l7 g7 l8 g8
          have mv : ∀ {p : Addr} {u : Value}, w0.cell? p = some u → wr.cell? p = some u := fun h => (HBB.out.cell (World.block_lt_of_cell? w0 _ h)).trans h
          simp only [Int.toNat_natCast] at q0 q1 q2 q3 q4 q5 q6 q7 q8
          replace q0 := mv q0
          replace q1 := mv q1
          replace q2 := mv q2
          replace q3 := mv q3
          replace q4 := mv q4
          replace q5 := mv q5
          replace q6 := mv q6
          replace q7 := mv q7
          replace q8 := mv q8
          clear mv
          obtain ⟨d, hd⟩ : ∃ d, d = rd_T70 cs j := ⟨_, rfl⟩
          rw [← hd] at q0 q1 q2 q3 q4 q5 q6 q7 q8
          have HD := Lib.hid hd
          clear hd
          have HG2 : Hid (d.f3.f2.length ≤ e7 ∧ (Kd.int .i64).C w0 E7 d.f3.f2.length d.f3.f2 ∧ d.f3.f3.length ≤ e8 ∧ Kd.string.C w0 E8 d.f3.f3.length d.f3.f3) := Lib.hid (by rw [HD.out]; exact HG.out)
          clear HG
          go_wp2_with fail
          have hBn := (HBB.out.trans (Below.mono (below_alloc (Below.refl wr.heap.size wr) (.cells #[.int .i64 d.f0, .int .i64 d.f1, .int .i64 d.f2.f0, .int .i64 d.f2.f1, .string d.f2.f2, .bool d.f3.f0, .string d.f3.f1, .slice E7 d.f3.f2.length e7, .slice E8 d.f3.f3.length e8] 65)) (below_size HBB.out)))
          refine (fits_calls ((HF.out.2.alloc _).book HC.out.1 hlen HC.out.2.1 HC.out.2.2.1 HC.out.2.2.2.1 (mkAt_lt _ _ HS.out.1)) d E7 e7 E8 e8 HG2.out.1 (Kd.C_below HG2.out.2.1 hBn) HG2.out.2.2.1 (Kd.C_below HG2.out.2.2.2 hBn) (by rw [HD.out]; exact HC.out.2.2.2.2.1 j hlt2) (by rw [HD.out]; exact HC.out.2.2.2.2.2 j hlt2)).mono ?_
          rintro e w3 ⟨rfl, hb3⟩
          have HW3 := Lib.hid ((HF.out.2.alloc _).only' hb3)
          clear hb3 hBn
          cases hfb : fitsB cs mk d with
          | true =>
            have HFB := Lib.hid hfb
            clear hfb
            go_wp2_with fail
            go_roundw
            case rel => exact ⟨j + 1, by omega, by go_num, fun q hq => by
              rcases Nat.lt_or_ge q j with k | k
              · exact HF.out.1 q k
              · obtain rfl : q = j := by omega
                rw [← HD.out]; exact HFB.out, HW3.out⟩
            case measure => simp [intOf]; omega
          | false =>
            have HFB := Lib.hid hfb
            clear hfb
            go_wp2_with fail
            go_ret
            refine ⟨HW3.out.only, MadeEnd.no ?_ rfl⟩
            unfold madeB
            rw [HS.out.1]
            show (if allFit cs mk cs.length then some mk else none) = none
            rw [if_neg]
            intro q
            have := q j hlt2
            rw [← HD.out, HFB.out] at this
            cases this
        · obtain rfl : j = cs.length := by omega
          go_wp2_with fail
          go_ret
          refine ⟨HF.out.2.only, MadeEnd.yes ?_ rfl (HF.out.2.book HC.out.1 hlen HC.out.2.1 HC.out.2.2.1 HC.out.2.2.2.1 (mkAt_lt _ _ HS.out.1))⟩
          unfold madeB
          rw [HS.out.1]
          show (if allFit cs mk cs.length then some mk else none) = some mk
          rw [if_pos HF.out.1]
end Go.Proofs.Ytfahoomkpammiaa
