/- A step towards the laws on histories: the walk of read. No conditions of its own beyond those that its theorems name. -/
import Derived.Test.YtfahoomkpammiaaHPure
import Derived.Test.YtfahoomkpammiaaKUtil
import Derived.Test.YtfahoomkpammiaaHRow
import Derived.StillTailTactics
import Derived.BigQuiet
import Derived.Lib.Hide
import Derived.Lib.SlicesS
import Derived.WalkKit
import Derived.WalkSpells
namespace Go.Proofs.Ytfahoomkpammiaa
open Go.RowKit Go.MapKept Go.Proofs.YtfahoomkpammiaaW.PrintWords Go.Proofs.YtfahoomkpammiaaW.PrintLast Go.Proofs.YtfahoomkpammiaaW.PrintMore Go.Proofs.Ytfahoomkpammiaa.PHistOrders

def opnV (s : RS) : Int → Option Value := fun k => (s.opn k).map fun n => .int .i64 (n : Nat)
/-- ahead of the i-th moment -/
structure RInv (w wr : World) (l0 : List S45) (i : Nat) (s : RS) (v : Value) : Prop where
  now : rat l0 i = some s
  row : OwnRow (k70.K w) 65 9 wr w.heap.size v s.calls
  map : IMap wr w.heap.size (opnV s)
  below : Below w.heap.size w wr

/-- what read answers -/
def ReadEnd (w w' : World) (v : Value) (b : Bool) : Option RS → Prop
  | none => v = .slice none 0 0 ∧ b = false
  | some s => OwnRow (k70.K w) 65 9 w' w.heap.size v s.calls ∧ (b = true ↔ (∀ k, s.opn k = none) ∧ s.calls.length ≤ 64)
theorem rat_none {l0 : List S45} {i : Nat} (h : rat l0 i = none) : ∀ j, i ≤ j → j ≤ l0.length → rat l0 j = none := by
  intro j hij
  induction hij with
  | refl => exact fun _ => h
  | @step j hij ih =>
    intro hj
    rw [rat_succ l0 j _ (List.getElem?_eq_getElem (show j < l0.length by omega)), ih (by omega)]
    rfl
/-- a moment that is refused -/
theorem RInv.refused {w wr w' : World} {l0 : List S45} {i : Nat} {s : RS} {v : Value} {m : S45} (h : RInv w wr l0 i s v) (hm : l0[i]? = some m) (hn : rstep i m s = none) : ReadEnd w w' (.slice none 0 0) false (rat l0 l0.length) := by
  have hi := (List.getElem?_eq_some_iff.1 hm).1
  have : rat l0 (i + 1) = none := by rw [rat_succ l0 i m hm, h.now]; exact hn
  rw [rat_none this l0.length (by omega) (Nat.le_refl _)]
  exact ⟨rfl, rfl⟩

theorem nameW {C : Code} {Q : Exit → Act → World → Prop} {a : Act} {W : World} (h : ∀ V, V = W → Code.wp Try.prog C Q a V) : Code.wp Try.prog C Q a W := h W rfl
theorem own_not_map {w : World} {b : Nat} {f : Int → Option Value} {base : Nat} {e : TypeId} {size n : Nat} {v : Value} {xs : List Value} (hm : IMap w b f) (ho : w.ownsRow base e size v n xs) : ∀ g, v.ownBlock = some g → g ≠ b := by
  rintro g hg rfl
  obtain ⟨es, clock, h1, _⟩ := hm
  obtain ⟨cells, h2⟩ := own_typed ho g hg
  rw [h1] at h2
  cases h2
theorem RInv.mid {w wr w1 w2 : World} {l0 : List S45} {i : Nat} {s : RS} {v : Value} {o : Obj} (h : RInv w wr l0 i s v) (hb : Below (wr.alloc o).heap.size (wr.alloc o) w1) (ht : Turned w1 w2 w.heap.size) :
    OwnRow (k70.K w) 65 9 w2 w.heap.size v s.calls ∧ Below w.heap.size w w2 ∧ w.heap.size ≤ w2.heap.size := by
  have hB1 : Below w.heap.size w w1 := below_step (below_alloc h.below o) hb
  have h1 : OwnRow (k70.K w) 65 9 w1 w.heap.size v s.calls := (h.row.below (below_alloc (Below.refl _ _) o)).below hb
  have hm1 : IMap w1 w.heap.size (opnV s) := (h.map.only (S := fun _ => False) ((Only.refl _ _).alloc o) (fun q => q)).of_block (hb.block _ (Nat.lt_of_lt_of_le h.map.lt (by simp)))
  obtain ⟨inner, ho, hr⟩ := h1
  have hB2 : Below w.heap.size w w2 := hB1.trans ((ht.only (S := fun b => b = w.heap.size) rfl).below (below_size hB1) (fun b e => Nat.le_of_eq e.symm))
  exact ⟨⟨inner, (ht.only (S := fun b => b = w.heap.size) rfl).row ho (own_not_map hm1 ho), hr⟩, hB2, below_size hB2⟩
theorem opnV_upd (s : RS) (cs : List S70) (k : Int) (n : Nat) : opnV ⟨cs, upd1 s.opn k (some n)⟩ = fun j => if j = k then some (.int .i64 (n : Nat)) else opnV s j := by
  funext j
  unfold opnV upd1
  dsimp only
  split <;> rfl
theorem opnV_del (s : RS) (cs : List S70) (k : Int) : opnV ⟨cs, upd1 s.opn k none⟩ = fun j => if j = k then none else opnV s j := by
  funext j
  unfold opnV upd1
  dsimp only
  split <;> rfl
theorem info_call : (Try.prog.info? 65).map (fun i => (i.zero, i.size, i.bytes)) = some (some (.agg #[(.int .i64 0), (.int .i64 0), (.int .i64 0), (.int .i64 0), (.string ⟨#[]⟩), (.bool false), (.string ⟨#[]⟩), (.slice none 0 0), (.slice none 0 0)]), 9, 120) := by kernel_rfl
theorem rstep_len {i : Nat} {m : S45} {s s' : RS} (h : rstep i m s = some s') : s'.calls.length ≤ s.calls.length + 1 := by
  unfold rstep at h
  split at h
  · split at h
    · obtain rfl := Option.some.inj h; simp
    · cases h
  · split at h
    · cases h
    · split at h
      · obtain rfl := Option.some.inj h; simp
      · cases h
theorem rat_len {l0 : List S45} : ∀ (i : Nat) (s : RS), i ≤ l0.length → rat l0 i = some s → s.calls.length ≤ i := by
  intro i
  induction i with
  | zero => intro s _ h; cases h; simp
  | succ i ih =>
    intro s hi h
    rw [rat_succ l0 i _ (List.getElem?_eq_getElem (show i < l0.length by omega))] at h
    obtain ⟨s1, h1, h2⟩ := Option.bind_eq_some_iff.1 h
    have := ih s1 (by omega) h1
    have := rstep_len h2
    omega

theorem RInv.begun {w wr w2 w3 : World} {l0 : List S45} {i : Nat} {s : RS} {v v1 : Value} {m : S45} (h : RInv w wr l0 i s v) (hm : l0[i]? = some m) (hb1 : m.f1 = true) (hop : s.opn m.f0 = none) (hbg : beginsB m = true)
    (hm2 : IMap w2 w.heap.size (fun j => if j = m.f0 then some (.int .i64 (s.calls.length : Nat)) else opnV s j)) (ho2 : OwnRow (k70.K w) 65 9 w2 w.heap.size v s.calls) (hg : w2.grownBy w3 v.ownBlock) (hB : Below w.heap.size w w3)
    (ho3 : OwnRow (k70.K w) 65 9 w3 w.heap.size v1 (s.calls ++ [⟨(i : Int), 0, m.f2, z43⟩])) : RInv w w3 l0 (i + 1) ⟨s.calls ++ [⟨(i : Int), 0, m.f2, z43⟩], upd1 s.opn m.f0 (some s.calls.length)⟩ v1 := by
  obtain ⟨inner, hi, _⟩ := ho2
  refine ⟨?_, ho3, ?_, hB⟩
  · rw [rat_succ l0 i m hm, h.now]
    show rstep i m s = _
    unfold rstep
    rw [if_pos hb1, if_pos ⟨hop, hbg⟩]
  · rw [opnV_upd]
    exact hm2.of_block (hg.block _ hm2.lt (fun e => own_not_map hm2 hi _ e.symm rfl))

theorem RInv.ended {w wr V3 w4 : World} {l0 : List S45} {i n : Nat} {s : RS} {v : Value} {m : S45} {f : Int → Option Value} (h : RInv w wr l0 i s v) (hm : l0[i]? = some m) (hb1 : m.f1 = false) (hop : s.opn m.f0 = some n) (heq : opEq (rd_T70 s.calls n).f2 m.f2) (he : endsB m.f2 m.f3 = true)
    (ho3 : OwnRow (k70.K w) 65 9 V3 w.heap.size v (s.calls.set n ⟨(rd_T70 s.calls n).f0, (i : Int), (rd_T70 s.calls n).f2, m.f3⟩)) (hm3 : IMap V3 w.heap.size f) (hB : Below w.heap.size w V3)
    (hm4 : IMap w4 w.heap.size (fun j => if j = m.f0 then none else opnV s j)) (ht : Turned V3 w4 w.heap.size) : RInv w w4 l0 (i + 1) ⟨s.calls.set n ⟨(rd_T70 s.calls n).f0, (i : Int), (rd_T70 s.calls n).f2, m.f3⟩, upd1 s.opn m.f0 none⟩ v := by
  obtain ⟨inner, hi, hr⟩ := ho3
  have hon := ht.only (S := fun b => b = w.heap.size) rfl
  refine ⟨?_, ⟨inner, hon.row hi (own_not_map hm3 hi), hr⟩, ?_, hB.trans (hon.below (below_size hB) (fun b e => Nat.le_of_eq e.symm))⟩
  · rw [rat_succ l0 i m hm, h.now]
    show rstep i m s = _
    unfold rstep
    rw [hb1, if_neg (by simp), hop]
    dsimp only
    rw [if_pos ⟨heq, he⟩]
  · rw [opnV_del]
    exact hm4

theorem RInv.done {w wr : World} {l0 : List S45} {s : RS} {v : Value} (h : RInv w wr l0 l0.length s v) {k : Nat} (hk : k = 0 ↔ ∀ j, opnV s j = none) (b : Bool) (hb : b = true ↔ k = 0 ∧ s.calls.length ≤ 64) : ReadEnd w wr v b (rat l0 l0.length) := by
  rw [h.now]
  refine ⟨h.row, hb.trans ⟨fun q => ⟨fun j => ?_, q.2⟩, fun q => ⟨hk.2 fun j => ?_, q.2⟩⟩⟩
  · have := hk.1 q.1 j
    unfold opnV at this
    cases e : s.opn j with
    | none => rfl
    | some n => rw [e] at this; cases this
  · unfold opnV
    rw [q.1 j]
    rfl
theorem rstep_opn {i : Nat} {m : S45} {s s' : RS} (hs : ∀ k n, s.opn k = some n → n < s.calls.length) (h : rstep i m s = some s') : ∀ k n, s'.opn k = some n → n < s'.calls.length := by
  unfold rstep at h
  split at h
  · split at h
    · obtain rfl := Option.some.inj h
      intro k n hk
      simp only [upd1] at hk
      split at hk
      · cases hk; simp
      · have := hs k n hk; simp; omega
    · cases h
  · split at h
    · cases h
    · split at h
      · obtain rfl := Option.some.inj h
        intro k n hk
        simp only [upd1] at hk
        split at hk
        · cases hk
        · have := hs k n hk; simpa using this
      · cases h
theorem rat_opn {l0 : List S45} : ∀ (i : Nat) (s : RS), i ≤ l0.length → rat l0 i = some s → ∀ k n, s.opn k = some n → n < s.calls.length := by
  intro i
  induction i with
  | zero => intro s _ h; cases h; intro k n hk; cases hk
  | succ i ih =>
    intro s hi h
    rw [rat_succ l0 i _ (List.getElem?_eq_getElem (show i < l0.length by omega))] at h
    obtain ⟨s1, h1, h2⟩ := Option.bind_eq_some_iff.1 h
    exact rstep_opn (ih s1 (by omega) h1) h2

/-- where the calls lie: a row of one's own, cell by cell -/
theorem RInv.at_row {w wr : World} {l0 : List S45} {i : Nat} {s : RS} {A : Option Addr} {c : Nat} (h : RInv w wr l0 i s (.slice A s.calls.length c)) (n : Nat) (hn : n < s.calls.length) :
    ∃ g cap, (.slice A s.calls.length c : Value) = .slice (some ⟨g, 0, none⟩) s.calls.length cap ∧ w.heap.size ≤ g ∧ ∃ cur, wr.heap[g]? = some (.cells cur 65 (0, 0)) ∧ s.calls.length * 9 ≤ cur.size := by
  obtain ⟨inner, ho, hr⟩ := h.row
  rcases ho.2 with ⟨h0, _⟩ | ⟨g, cap, cur, hv, hb, hg, hn1, hm, hs, ht⟩
  · injection h0 with _ h0 _
    omega
  · refine ⟨g, cap, hv, hb, cur, hg, ?_⟩
    rw [hs]
    exact Nat.mul_le_mul_right 9 hn1

theorem opEq_iff {a b : S40} : (a.f0 == b.f0 && (a.f1 == b.f1 && (a.f2.toList == b.f2.toList))) = true ↔ opEq a b := by
  unfold opEq
  simp only [Bool.and_eq_true, beq_iff_eq]
  constructor
  · rintro ⟨h0, h1, h2⟩
    exact ⟨h0, h1, (Lib.bytes_beq_iff _ _).1 (beq_iff_eq.2 h2)⟩
  · rintro ⟨h0, h1, h2⟩
    rw [h0, h1, h2]
    exact ⟨rfl, rfl, rfl⟩

set_option maxRecDepth 200000 in
set_option maxHeartbeats 4000000 in
theorem read_walk (w : World) (A : Option Addr) (c : Nat) (l0 : List S45) (hr : Kd.C k45 w A l0.length l0) (hc : l0.length ≤ c) (hl : l0.length ≤ 2147483647) :
    Calls Try.prog 26 #[.slice A l0.length c] w fun e w' => Below w.heap.size w w' ∧ ∃ v b, e = .returned (.tuple #[v, .bool b]) ∧ ReadEnd w w' v b (rat l0 l0.length) := by
  have HR := Lib.hid hr
  have HL := Lib.hid (And.intro hc hl)
  clear hr hc
  have hmm := @run_makeMap Try.prog
  have hu45 := Try.underlying45
  have hu40 := Try.underlying40
  have hu43 := Try.underlying43
  go_enter Try.func26, Try.ntmps26
  go_wp2_with fail
  go_loopw [4, 13] (fun s4 s13 wr => ∃ (i : Nat) (s : RS), i ≤ l0.length ∧ s13 = .int .i64 i ∧ RInv w wr l0 i s s4) (fun _ s13 _ => l0.length - (intOf s13).toNat)
  case atStart => exact ⟨0, _, Nat.zero_le _, rfl, rat_zero l0, OwnRow.none_ _ _ _ _ _, IMap.made w, below_alloc (Below.refl _ _) _⟩
  case round =>
    obtain ⟨i, s, hi, rfl, hS⟩ := hrel
    obtain ⟨A4, c4, rfl, h4⟩ := hS.row.slice_
    have HS := Lib.hid hS
    have H4 := Lib.hid h4
    clear hS h4
    by_cases hlt : i < l0.length
    · have hlD : decide ((i : Int) < (l0.length : Int)) = true := by simp; omega
      obtain ⟨ad, A7, c7, A8, c8, rfl, x0, x1, x2, x3, x4, x5, x6, x7, x8, h7, g7, h8, g8⟩ := at_T45 HR.out i (by omega) (by omega)
      have HG := Lib.hid (And.intro h7 (And.intro g7 (And.intro h8 g8)))
      clear h7 g7 h8 g8
      have mv : ∀ {p : Addr} {u : Value}, w.cell? p = some u → wr.cell? p = some u := fun h => (HS.out.below.cell (World.block_lt_of_cell? w _ h)).trans h
      replace x0 := mv x0
      replace x1 := mv x1
      replace x2 := mv x2
      replace x3 := mv x3
      replace x4 := mv x4
      replace x5 := mv x5
      replace x6 := mv x6
      replace x7 := mv x7
      replace x8 := mv x8
      clear mv
      simp only [Int.toNat_natCast] at x0 x1 x2 x3 x4 x5 x6 x7 x8
      obtain ⟨m, hm⟩ : ∃ m, m = rd_T45 l0 i := ⟨_, rfl⟩
      rw [← hm] at x0 x1 x2 x3 x4 x5 x6 x7 x8
      have HG' := HG.out
      rw [← hm] at HG'
      have HG2 := Lib.hid HG'
      clear HG HG'
      have HMM := Lib.hid (show l0[i]? = some m by rw [hm]; unfold rd_T45; rw [Int.toNat_natCast, List.getD_eq_getElem?_getD, List.getElem?_eq_getElem hlt]; rfl)
      clear hm
      have HST := Lib.hid (rat_succ l0 i m HMM.out)
      have hl : ∀ o : Obj, (Instr.lookup 56 (.map (some w.heap.size)) (.int .i64 m.f0) true).run Try.prog (wr.alloc o) = .ok (.tuple #[(opnV s m.f0).getD (.int .i64 0), .bool (opnV s m.f0).isSome]) (wr.alloc o) :=
        fun o => IMap.run_lookup2 Try.underlying56 Try.underlying3 (HS.out.map.only (S := fun _ => False) ((Only.refl _ _).alloc o) (fun q => q)) _ (by kernel_rfl) m.f0
      cases hb1 : m.f1 with
      | true =>
        rw [hb1] at x1
        cases hop : s.opn m.f0 with
        | some n =>
          have hov : opnV s m.f0 = some (.int .i64 (n : Nat)) := by unfold opnV; rw [hop]; rfl
          simp only [hov, Option.getD_some, Option.isSome_some] at hl
          clear hov
          have HOP := Lib.hid hop
          have HB1 := Lib.hid hb1
          clear hop hb1
          go_wp2_with fail
          go_ret2
          exact ⟨below_alloc HS.out.below _, _, _, rfl, HS.out.refused HMM.out (by unfold rstep; rw [if_pos HB1.out, HOP.out, if_neg (fun q => by simp at q)])⟩
        | none =>
          have hov : opnV s m.f0 = none := by unfold opnV; rw [hop]; rfl
          simp only [hov, Option.getD_none, Option.isSome_none] at hl
          clear hov
          have HOP := Lib.hid hop
          have HB1 := Lib.hid hb1
          clear hop hb1
          go_wp2_with fail
          refine (hist_begins.calls 1 m.f0 true m.f2.f0 m.f2.f1 m.f2.f2 m.f3.f0 m.f3.f1 A7 c7 m.f3.f2 A8 c8 m.f3.f3 (beginsB m) _ (Kd.C_below HG2.out.2.1 (below_alloc HS.out.below _)) HG2.out.1 (Kd.C_below HG2.out.2.2.2 (below_alloc HS.out.below _)) HG2.out.2.2.1 (by rw [← HB1.out]; exact begins_some m)).mono ?_
          rintro e w1 ⟨rfl, hb⟩
          have HW1 := Lib.hid hb
          have hbx := blk_below (blk_new wr _) hb
          clear hb hl
          cases hbg : beginsB m with
          | false =>
            go_wp2_with fail
            go_ret2
            exact ⟨below_step (below_alloc HS.out.below _) HW1.out, _, _, rfl, HS.out.refused HMM.out (by unfold rstep; rw [if_pos HB1.out, HOP.out, hbg, if_neg (fun q => by simp at q)])⟩
          | true =>
            have y0 := blk_cell hbx (i := 0) rfl
            have y1 := blk_cell hbx (i := 1) rfl
            have hm1 : IMap w1 w.heap.size (opnV s) := (HS.out.map.only (S := fun _ => False) ((Only.refl _ _).alloc _) (fun q => q)).of_block (HW1.out.block _ (Nat.lt_of_lt_of_le HS.out.map.lt (by simp)))
            obtain ⟨w2, hrun, hm2, hturn, hdr⟩ := IMap.run_update Try.underlying56 Try.underlying3 hm1 m.f0 (.int .i64 (s.calls.length : Nat))
            have hbx2 := (hturn.2.2.2.2 _ (Nat.ne_of_gt HS.out.map.lt)).trans hbx
            have z2 := blk_cell hbx2 (i := 2) rfl
            have z3 := blk_cell hbx2 (i := 3) rfl
            have z4 := blk_cell hbx2 (i := 4) rfl
            have HU := Lib.hid (And.intro hm2 (And.intro hturn hbx2))
            have HBX := Lib.hid hbx
            clear hm1 hm2 hturn hbx2 hbx hdr
            have HLN := Lib.hid (rat_len i s (by omega) HS.out.now)
            obtain ⟨hO, hBB, hbs⟩ := HS.out.mid HW1.out HU.out.2.1
            have HO := Lib.hid hO
            have HBB := Lib.hid (And.intro hBB hbs)
            clear hO hBB hbs
            go_wp2_with (refine OwnRow.append (w0 := w) w.heap.size rfl (.tmp 58) (.tmp 63) 52 65 _ 9 120 rfl Try.underlying52 info_call rfl (by decide) (by decide) _ s.calls ⟨(i : Int), 0, m.f2, z43⟩ _ rfl rfl (k70_mk w ⟨(i : Int), 0, m.f2, z43⟩ (A7 := none) (c7 := 0) (Nat.le_refl _) (Kd.C_nil _ _) (A8 := none) (c8 := 0) (Nat.le_refl _) (Kd.C_nil _ _)) rfl (by intro u hu; simp at hu; rcases hu with rfl | rfl | rfl | rfl | rfl | rfl | rfl | rfl | rfl <;> rfl) HO.out HBB.out.1 HBB.out.2 (by have := HLN.out; omega) ?_; intro v1 w3 hO3 hB3 hg3 hat3; have HO3 := Lib.hid (And.intro hO3 (And.intro hB3 hg3)); clear hO3 hB3 hg3 hat3)
            go_roundw
            case rel => exact ⟨i + 1, _, by omega, by go_num, HS.out.begun HMM.out HB1.out HOP.out hbg HU.out.1 HO.out HO3.out.2.2 HO3.out.2.1 HO3.out.1⟩
            case measure => simp [intOf]; omega
      | false =>
        rw [hb1] at x1
        cases hop : s.opn m.f0 with
        | none =>
          have hov : opnV s m.f0 = none := by unfold opnV; rw [hop]; rfl
          simp only [hov, Option.getD_none, Option.isSome_none] at hl
          clear hov
          have HOP := Lib.hid hop
          have HB1 := Lib.hid hb1
          clear hop hb1
          go_wp2_with fail
          refine nameW ?_
          intro V hV
          have HV := Lib.hid hV
          clear hV hl
          go_quiet (fail)
          go_wp2_with fail
          go_ret2
          exact ⟨pw_below_drewN (by rw [HV.out]; exact below_alloc HS.out.below _) _, _, _, rfl, HS.out.refused HMM.out (by unfold rstep; rw [HB1.out, if_neg (by simp), HOP.out])⟩
        | some n =>
          have hov : opnV s m.f0 = some (.int .i64 (n : Nat)) := by unfold opnV; rw [hop]; rfl
          simp only [hov, Option.getD_some, Option.isSome_some] at hl
          clear hov
          have hnl := rat_opn i s (by omega) HS.out.now _ _ hop
          obtain ⟨A5, c5, he5, _, hC⟩ := (HS.out.row.imp_ (fun _ _ => k70.K_below HS.out.below)).reads
          injection he5 with he5 _ hc5
          subst hc5
          rw [← he5] at hC
          clear he5
          obtain ⟨ae, E7, e7, E8, e8, hA4, q0, q1, q2, q3, q4, q5, q6, q7, q8, _, _, _, _⟩ := at_T70 (w := wr) hC n (by omega) (by omega)
          subst hA4
          clear hC
          have HOP := Lib.hid hop
          have HB1 := Lib.hid hb1
          clear hop hb1
          go_wp2_with fail
          refine nameW ?_
          intro V hV
          have hbx : V.heap[wr.heap.size]? = some (.cells #[.int .i64 m.f0, .bool false, .int .i64 m.f2.f0, .int .i64 m.f2.f1, .string m.f2.f2, .bool m.f3.f0, .string m.f3.f1, .slice A7 m.f3.f2.length c7, .slice A8 m.f3.f3.length c8] 45 (0, 0)) := by rw [hV]; exact blk_new wr _
          have hbl : Below wr.heap.size wr V := by rw [hV]; exact below_alloc (Below.refl _ _) _
          have HV := Lib.hid (And.intro hV (And.intro hbx hbl))
          have mv : ∀ {p : Addr} {u : Value}, wr.cell? p = some u → V.cell? p = some u := fun h => (hbl.cell (World.block_lt_of_cell? wr _ h)).trans h
          simp only [Int.toNat_natCast] at q0 q1 q2 q3 q4 q5 q6 q7 q8
          replace q2 := mv q2
          replace q3 := mv q3
          replace q4 := mv q4
          clear mv q0 q1 q5 q6 q7 q8 x0 x1 x2 x3 x4 x5 x6 x7 x8
          have y2 := blk_cell hbx (i := 2) rfl
          have y3 := blk_cell hbx (i := 3) rfl
          have y4 := blk_cell hbx (i := 4) rfl
          have y5 := blk_cell hbx (i := 5) rfl
          have y6 := blk_cell hbx (i := 6) rfl
          have y7 := blk_cell hbx (i := 7) rfl
          have y8 := blk_cell hbx (i := 8) rfl
          clear hV hl hbx hbl
          obtain ⟨d, hd⟩ : ∃ d, d = rd_T70 s.calls n := ⟨_, rfl⟩
          rw [← hd] at q2 q3 q4
          have HD := Lib.hid hd
          clear hd
          have hnD : decide ((n : Int) < (s.calls.length : Int)) = true := by simp; omega
          have hqq := eqA40
          cases hq : (d.f2.f0 == m.f2.f0 && (d.f2.f1 == m.f2.f1 && (d.f2.f2.toList == m.f2.f2.toList))) with
          | false =>
            go_quiet (fail)
            go_wp2_with fail
            go_ret2
            exact ⟨pw_below_drewN (HS.out.below.trans (HV.out.2.2.mono (below_size HS.out.below))) _, _, _, rfl, HS.out.refused HMM.out (by unfold rstep; rw [HB1.out, if_neg (by simp), HOP.out]; dsimp only; rw [if_neg]; rintro ⟨h1, _⟩; rw [← HD.out, ← opEq_iff, hq] at h1; cases h1)⟩
          | true =>
            refine wp_region_still_tail 17 (by kernel_rfl) (by kernel_rfl) ?_
            simp only [List.take_succ_cons, List.take_zero, List.drop_succ_cons, List.drop_zero]
            repeat still_step
            refine wpStill_nil ?_
            go_wp2_with fail
            have HBV := Lib.hid (show Below w.heap.size w V from HS.out.below.trans (HV.out.2.2.mono (below_size HS.out.below)))
            have hk2 : m.f3.f2.length ≤ 9223372036854775807 := (HG2.out.2.1).2.1
            refine (hist_ends.calls (m.f3.f2.length + 1) m.f2.f0 m.f2.f1 m.f2.f2 m.f3.f0 m.f3.f1 A7 c7 m.f3.f2 A8 c8 m.f3.f3 (endsB m.f2 m.f3) _ (Kd.C_below HG2.out.2.1 (by first | exact below_drew1 HBV.out | exact pw_below_drewN HBV.out _ | exact HBV.out)) HG2.out.1 (Kd.C_below HG2.out.2.2.2 (by first | exact below_drew1 HBV.out | exact pw_below_drewN HBV.out _ | exact HBV.out)) HG2.out.2.2.1 (ends_some _ _ hk2)).mono ?_
            clear hk2 q2 q3 q4 y2 y3 y4 y5 y6 y7 y8
            rintro e w1 ⟨rfl, hb⟩
            cases he : endsB m.f2 m.f3 with
            | false =>
              have HW1 := Lib.hid hb
              clear hb
              go_wp2_with fail
              go_ret2
              exact ⟨below_step (by first | exact below_drew1 HBV.out | exact pw_below_drewN HBV.out _ | exact HBV.out) HW1.out, _, _, rfl, HS.out.refused HMM.out (by unfold rstep; rw [HB1.out, if_neg (by simp), HOP.out]; dsimp only; rw [if_neg]; rintro ⟨_, h2⟩; rw [he] at h2; cases h2)⟩
            | true =>
              obtain ⟨g, cap, hae, hgw, cur, hcur, hcs⟩ := HS.out.at_row n (by omega)
              cases hae
              have HE := Lib.hid (And.intro he hq)
              clear he hq hqq
              have hbx1 := blk_below (show V.drew.heap[wr.heap.size]? = _ from HV.out.2.1) hb
              have hcur1 := blk_below (w := V.drew) (blk_drew (blk_below hcur HV.out.2.2)) hb
              have y5 := blk_cell hbx1 (i := 5) rfl
              have y6 := blk_cell hbx1 (i := 6) rfl
              have y7 := blk_cell hbx1 (i := 7) rfl
              have y8 := blk_cell hbx1 (i := 8) rfl
              have y0 := blk_cell hbx1 (i := 0) rfl
              have cl : ∀ j, j < 9 → ∃ u, w1.cell? ⟨g, n * 9 + j, none⟩ = some u := fun j hj => ⟨cur[n * 9 + j]'(by omega), blk_cell hcur1 (Array.getElem?_eq_getElem _)⟩
              obtain ⟨u1, kc1⟩ := cl 1 (by omega)
              obtain ⟨u5, kc5⟩ := cl 5 (by omega)
              obtain ⟨u6, kc6⟩ := cl 6 (by omega)
              obtain ⟨u7, kc7⟩ := cl 7 (by omega)
              obtain ⟨u8, kc8⟩ := cl 8 (by omega)
              have fz : ∀ i, w1.frozen? ⟨g, i, none⟩ = false := fun i => blk_frozen hcur1 i
              have HW1 := Lib.hid (And.intro hb (And.intro hbx1 (And.intro hcur1 (And.intro hgw hcs))))
              have HCUR := Lib.hid (blk_lt hcur)
              clear hb hbx1 hcur1 hgw hcs cl hcur
              go_wp2_with fail
              refine nameW ?_
              intro V2 hV2
              cases hV2
              go_region
              clear kc1 kc5 kc6 kc7 kc8 fz y5 y6 y7 y8 y0
              generalize hV3 : World.drew _ = V3
              have HV3 := Lib.hid hV3
              clear hV3
              have HST3 : Hid (V3 = stored w1 g n i m.f3 A7 c7 A8 c8) := Lib.hid HV3.out.symm
              have hon : Only w1 V3 (fun b => b = g) := by rw [HST3.out]; exact stored_only _ _ _ _ _ _ _ _ _
              have hm1 : IMap w1 w.heap.size (opnV s) := ((HS.out.map.of_block (HV.out.2.2.block _ HS.out.map.lt)).of_block (w1 := V.drew) rfl).of_block (HW1.out.1.block _ (Nat.lt_of_lt_of_le HS.out.map.lt HV.out.2.2.size))
              have hgm : w.heap.size ≠ g := fun e => by
                obtain ⟨es, clock, q1, _⟩ := hm1
                rw [e, HW1.out.2.2.1] at q1
                cases q1
              have hm3 := hm1.only hon hgm
              have hwg : wr.heap.size ≠ g := fun e => absurd HCUR.out (by omega)
              have hbx3 := hon.blk HW1.out.2.1 hwg
              have y0 := blk_cell hbx3 (i := 0) rfl
              obtain ⟨w4, hdel, hm4, hturn, hdr⟩ := IMap.run_delete Try.underlying56 Try.underlying3 hm3 0 3 m.f0
              have HM4 := Lib.hid (And.intro hm4 hturn)
              have HM3 := Lib.hid (And.intro hm3 hon)
              clear hm4 hturn hdr hm3 hm1 hbx3 hon
              go_wp2_with fail
              go_roundw
              case rel =>
                have hBV2 : Below w.heap.size w w1 := below_step (below_drew1 HBV.out) HW1.out.1
                have hB3 : Below w.heap.size w V3 := hBV2.trans (HM3.out.2.below (below_size hBV2) (fun b e => by rw [e]; exact HW1.out.2.2.2.1))
                have O1 := ((HS.out.row.below HV.out.2.2).below (below_drew1 (Below.refl _ _))).below HW1.out.1
                have O3 := stored_row O1 (n := n) (by omega) (i : Int) m.f3 A7 c7 A8 c8 HG2.out.1 HG2.out.2.1 HG2.out.2.2.1 HG2.out.2.2.2
                rw [← HST3.out] at O3
                exact ⟨i + 1, _, by omega, by go_num, HS.out.ended HMM.out HB1.out HOP.out (by rw [← HD.out]; exact opEq_iff.1 HE.out.2) HE.out.1 O3 HM3.out.1 hB3 HM4.out.1 HM4.out.2⟩
              case measure => simp [intOf]; omega
    · have hlD : decide ((i : Int) < (l0.length : Int)) = false := by simp; omega
      obtain ⟨k, hlen, hk⟩ := IMap.run_len Try.underlying56 HS.out.map 3
      have HK := Lib.hid hk
      clear hk
      obtain rfl : i = l0.length := by omega
      by_cases h0 : k = 0
      · have d0 : decide ((k : Int) = 0) = true := by simp; omega
        by_cases h64 : s.calls.length ≤ 64
        · have d1 : decide ((s.calls.length : Int) ≤ 64) = true := by simp; omega
          go_wp2_with fail
          go_ret2
          exact ⟨HS.out.below, _, _, rfl, HS.out.done HK.out _ (by simp [h0, h64])⟩
        · have d1 : decide ((s.calls.length : Int) ≤ 64) = false := by simp; omega
          go_wp2_with fail
          go_ret2
          exact ⟨HS.out.below, _, _, rfl, HS.out.done HK.out _ (by simp [h64])⟩
      · have d0 : decide ((k : Int) = 0) = false := by simp; omega
        go_wp2_with fail
        go_ret2
        exact ⟨HS.out.below, _, _, rfl, HS.out.done HK.out _ (by simp [h0])⟩
end Go.Proofs.Ytfahoomkpammiaa
