/- A step towards the laws on histories: the first loop of Order. No conditions of its own beyond those that its theorems name. -/
import Derived.Test.YtfahoomkpammiaaHKst
namespace Go.Proofs.Ytfahoomkpammiaa
open Go.RowKit Go.MapKept Go.Shelf Go.Proofs.YtfahoomkpammiaaW.PrintWords Go.Proofs.YtfahoomkpammiaaW.PrintLast Go.Proofs.YtfahoomkpammiaaW.PrintMore Go.Proofs.Ytfahoomkpammiaa.PHistOrders
attribute [local go_sem] Oper.semAt_some

set_option maxRecDepth 200000 in
set_option maxHeartbeats 4000000 in
theorem order_walk (w : World) (A : Option Addr) (c : Nat) (l0 : List S45) (hr : Kd.C k45 w A l0.length l0) (hc : l0.length ≤ c) (hl : l0.length ≤ 2147483647) :
    Calls Try.prog 10 #[.slice A l0.length c] w fun e w' => OrdPost w l0 e w' := by
  refine (callsIn_wide (n := 9)).1 ?_
  refine callsIn_of_wp_marks Try.func10 rfl trivial ?_ rfl
  simp only [Try.ntmps10, List.size_toArray, List.length_cons, List.length_nil, Nat.reduceAdd, Nat.reduceSub, Array.replicate_succ, Array.replicate_zero, List.push_toArray, List.append_toArray, List.nil_append, List.cons_append]
  refine wpIn_wide.2 ?_
  go_wp2_with fail
  refine (read_walk w A c l0 hr hc hl).mono ?_
  rintro e w1 ⟨hb, v, ok, rfl, hend⟩
  have HW1 := Lib.hid (And.intro hb hend)
  clear hb hend
  cases ok with
  | false =>
    have hno : readB l0 = none := by
      have hend := HW1.out.2
      cases q : rat l0 l0.length with
      | none => exact readB_none q
      | some s =>
        rw [q] at hend
        exact readB_no q fun k => by have := hend.2.2 k; cases this
    have HNO := Lib.hid hno
    clear hno
    go_wp2_with fail
    refine ⟨_, results_tmp3 rfl _ _ _, ?_⟩
    exact (OrdPost.refused HNO.out HW1.out.1 : OrdPost w l0 (.returned (.tuple #[.slice none 0 0, .bool false, .int .i64 230])) w1)
  | true =>
    obtain ⟨s, hs, hrow, hopn, h64⟩ : ∃ s, rat l0 l0.length = some s ∧ OwnRow (k70.K w) 65 9 w1 w.heap.size v s.calls ∧ (∀ k, s.opn k = none) ∧ s.calls.length ≤ 64 := by
      have hend := HW1.out.2
      cases q : rat l0 l0.length with
      | none => rw [q] at hend; cases hend.2
      | some s => rw [q] at hend; exact ⟨s, rfl, hend.1, (hend.2.1 rfl).1, (hend.2.1 rfl).2⟩
    have hrd : readB l0 = some s.calls := readB_yes hs ⟨hopn, h64⟩
    have hml : ∀ m ∈ l0, m.f3.f2.length ≤ 9223372036854775807 := fun m hm => by
      obtain ⟨j, hj, rfl⟩ := List.mem_iff_getElem.1 hm
      obtain ⟨ad, E7, e7, E8, e8, _, _, _, _, _, _, _, _, _, _, _, g7, _⟩ := at_T45 hr j (by omega) (by omega)
      have := g7.2.1
      unfold rd_T45 at this
      rw [Int.toNat_natCast, List.getD_eq_getElem?_getD, List.getElem?_eq_getElem hj] at this
      exact this
    have hlens : lensOk s.calls := rat_lens hml _ _ (Nat.le_refl _) hs
    clear hml
    obtain ⟨A1, c1, hv, hcap, hC⟩ := (hrow.imp_ (fun _ _ => k70.K_below HW1.out.1)).reads
    subst hv
    obtain ⟨cs, hcs⟩ : ∃ cs, cs = s.calls := ⟨_, rfl⟩
    rw [← hcs] at hrow h64 hcap hC hrd hlens ⊢
    have hK : ∀ i, i < cs.length → (rd_T70 cs i).f3.f2.length ≤ 9223372036854775807 := fun i hi => by
      obtain ⟨ad, E7, e7, E8, e8, _, _, _, _, _, _, _, _, _, _, _, g7, _⟩ := at_T70 hC i (by omega) (by omega)
      exact g7.2.1
    have HS := Lib.hid (And.intro hs (And.intro hrow (And.intro hopn (And.intro hC (And.intro hcs hK)))))
    have HRD := Lib.hid (And.intro hrd hlens)
    clear hs hrow hopn hC hcs hK hrd hlens
    go_wp2_with fail
    have hbk : (w1.alloc (.cells #[.slice A1 cs.length c1, .map none] 58)).heap[w1.heap.size]? = some (.cells #[.slice A1 cs.length c1, .map none] 58 (0, 0)) := blk_new w1 _
    refine (made_walk w1 _ w1.heap.size cs A1 c1 hcap (by omega) HS.out.2.2.2.1 (below_alloc (Below.refl _ _) _) (Nat.le_refl _) hbk HRD.out.2 HS.out.2.2.2.2.2).mono ?_
    clear hbk
    rintro e w2 ⟨ho, hm⟩
    have HW2 := Lib.hid (And.intro ho hm)
    clear ho hm
    cases hmd : madeB cs with
    | none =>
      have hB2 : Below w.heap.size w w2 := HW1.out.1.trans ((below_alloc (Below.refl w1.heap.size w1) _).trans (HW2.out.1.below (by simp) fun b q => Nat.le_of_eq q.symm) |>.mono HW1.out.1.size)
      have he : e = .returned (.bool false) := by
        have := HW2.out.2
        unfold MadeEnd at this
        rw [hmd] at this
        exact this
      subst he
      have HM := Lib.hid (And.intro hmd hB2)
      clear hmd hB2
      go_wp2_with fail
      refine ⟨_, results_tmp3 rfl _ _ _, ?_⟩
      exact (OrdPost.none1 HRD.out.1 HM.out.1 HM.out.2 : OrdPost w l0 (.returned (.tuple #[.slice none 0 0, .bool false, .int .i64 0])) w2)
    | some mk =>
      obtain ⟨he, hbk⟩ : e = .returned (.bool true) ∧ BookAt w2 w1.heap.size cs mk A1 c1 (w1.heap.size + 1) := by
        have := HW2.out.2
        unfold MadeEnd at this
        rw [hmd] at this
        simpa using this
      subst he
      have HM := Lib.hid (And.intro hmd hbk)
      clear hmd hbk
      have hm1 := run_makeInts cs.length (by omega)
      have hm2 := run_makeRows cs.length (by omega)
      go_wp2_with fail
      obtain ⟨b1, hb1⟩ : ∃ b1, b1 = w1.heap.size := ⟨_, rfl⟩
      rw [← hb1]
      obtain ⟨N, hN⟩ : ∃ N, N = w2.heap.size := ⟨_, rfl⟩
      have HB1 := Lib.hid (And.intro hb1 hN)
      have HBK : Hid (BookAt w2 b1 cs mk A1 c1 (w1.heap.size + 1)) := Lib.hid (by rw [hb1]; exact HM.out.2)
      clear hb1 hm1 hm2 hN
      refine wp_loop (fun a W => ∃ (u10 u11 u37 u38 u39 u40 u41 u42 u60 : Value) (ds : List Deferred), (∃ i : Nat, i ≤ cs.length ∧ u37 = .int .i64 i ∧ L1 N w2 W cs mk i ds) ∧
        a = { tmps := #[.slice A l0.length c, undef, .slice none 0 0, .bool false, .int .i64 0, .slice A1 cs.length c1, .bool true, .pointer (some ⟨b1, 0, none⟩), .pointer (some ⟨N + 1, 0, none⟩), .pointer (some ⟨N + 3, 0, none⟩), u10, u11, undef, undef, undef, undef, .tuple #[.slice A1 cs.length c1, .bool true], .slice A l0.length c, .tuple #[.slice A1 cs.length c1, .bool true], .slice A1 cs.length c1, .bool true, .bool true, .bool false, .slice A1 cs.length c1, .agg #[.slice A1 cs.length c1, .map none], .pointer (some ⟨b1, 0, none⟩), .pointer (some ⟨b1, 0, none⟩), .bool true, .bool false, .slice A1 cs.length c1, .int .i64 (cs.length : Nat), .slice (some ⟨N, 0, none⟩) cs.length cs.length, .slice A1 cs.length c1, .int .i64 (cs.length : Nat), .slice (some ⟨N + 2, 0, none⟩) cs.length cs.length, .slice A1 cs.length c1, .int .i64 (cs.length : Nat), u37, u38, u39, u40, u41, u42, undef, undef, undef, undef, undef, undef, undef, undef, undef, undef, undef, undef, undef, undef, undef, undef, undef, u60, undef, undef, undef, undef, undef, undef, undef, undef, undef, undef, undef, undef, undef, undef, undef, undef, undef, undef, undef, undef, undef, undef, undef, undef, undef, undef, undef, undef, undef, undef, undef, undef, undef, undef, undef, undef, undef], defers := ds }) (fun a _ => cs.length - (intOf (a.tmps.getD 37 undef)).toNat) ?_ ?_
      · rw [← HB1.out.2]
        refine ⟨_, _, _, _, _, _, _, _, _, [], ⟨0, Nat.zero_le _, rfl, ?_, ?_, Marks.nil _ _⟩, rfl⟩
        · have := KMem.start (w := w2) cs.length
          simp only [List.toArray_replicate] at this
          rw [← HB1.out.2] at this
          exact this
        · rw [HB1.out.2]
          exact below_alloc (below_alloc (below_alloc (below_alloc (Below.refl _ _) _) _) _) _
      · rintro _ wr ⟨u10, u11, u37, u38, u39, u40, u41, u42, u60, ds, ⟨i, hi, rfl, hL⟩, rfl⟩
        have HL := Lib.hid hL
        clear hL
        by_cases hlt : i < cs.length
        · have hlD : decide ((i : Int) < (cs.length : Int)) = true := by simp; omega
          have hlN : decide (i < cs.length) = true := by simp; omega
          go_wp2_with fail
          have hB0 : Below w2.heap.size w2 (wr.alloc (.cells #[.int .i64 i] 3)) := by have := HL.out.below; rw [HB1.out.2] at this; exact below_alloc this _
          refine (behind_calls HBK.out hB0 i hlt).mono ?_
          rintro e w3 ⟨rfl, hB3, hsz3, E7, e7, E8, e8, l7, g7, hlaid⟩
          have hsz : w3.heap.size = wr.heap.size + 4 := by rw [hsz3]; simp
          have HW3 := Lib.hid (And.intro hB0 (And.intro hB3 (And.intro hsz (And.intro l7 (And.intro g7 hlaid)))))
          clear hB0 hB3 hsz3 hsz l7 g7 hlaid
          go_wp2_with fail
          refine (wpIn_wide (n := 9)).1 (wpIn_rangeFunc_ownG (F := Fence.wide) (n := 9) rfl (by omega) (gf := 46) (lb := #[.pointer (some ⟨wr.heap.size + 1, 0, none⟩), .pointer (some ⟨wr.heap.size + 1 + 1, 0, none⟩), .pointer (some ⟨wr.heap.size + 1 + 2, 0, none⟩)]) rfl trivial (enters_of Try.func46 (by kernel_rfl) rfl)
            (behind_stops 8 (by omega) w2 w3 (wr.heap.size + 1) b1 cs mk A1 c1 (w1.heap.size + 1) i hlt E7 e7 E8 e8 HS.out.2.2.2.2.2 HBK.out HW3.out.2.2.2.1 HW3.out.2.2.2.2.1 (below_step HW3.out.1 HW3.out.2.1) (by have := HW3.out.2.2.2.2.2; simpa using this))
            kpt (kpb (by have := HL.out.below.size; omega) (by have := HW3.out.2.2.1; omega)) (Below.refl _ _) (fun _ => rfl)
            (I1 N w2 cs mk i wr.heap.size ds) (fun _ _ _ => False) (I1_own N w2 cs mk i wr.heap.size ds w3 (by have := HL.out.below.size; have := HW3.out.2.2.1; have := HB1.out.2; omega) (by have := HB1.out.2; omega) (fun D hD => by have := HL.out.marks.lt hD; have := HW3.out.2.2.1; omega)) (fun _ _ _ _ _ q _ _ => q) ?start
            (fun x => { tmps := #[.slice A l0.length c, undef, .slice none 0 0, .bool false, .int .i64 0, .slice A1 cs.length c1, .bool true, .pointer (some ⟨b1, 0, none⟩), .pointer (some ⟨N + 1, 0, none⟩), .pointer (some ⟨N + 3, 0, none⟩), .pointer (some ⟨wr.heap.size, 0, none⟩), .int .i64 (x.1 : Int), undef, undef, undef, undef, .tuple #[.slice A1 cs.length c1, .bool true], .slice A l0.length c, .tuple #[.slice A1 cs.length c1, .bool true], .slice A1 cs.length c1, .bool true, .bool true, .bool false, .slice A1 cs.length c1, .agg #[.slice A1 cs.length c1, .map none], .pointer (some ⟨b1, 0, none⟩), .pointer (some ⟨b1, 0, none⟩), .bool true, .bool false, .slice A1 cs.length c1, .int .i64 (cs.length : Nat), .slice (some ⟨N, 0, none⟩) cs.length cs.length, .slice A1 cs.length c1, .int .i64 (cs.length : Nat), .slice (some ⟨N + 2, 0, none⟩) cs.length cs.length, .slice A1 cs.length c1, .int .i64 (cs.length : Nat), .int .i64 i, .bool true, .int .i64 i, .pointer (some ⟨b1, 0, none⟩), .int .i64 i, .func (.func 46) #[] #[.pointer (some ⟨wr.heap.size + 1, 0, none⟩), .pointer (some ⟨wr.heap.size + 1 + 1, 0, none⟩), .pointer (some ⟨wr.heap.size + 1 + 2, 0, none⟩)], .int .i64 (x.1 : Int), undef, undef, undef, undef, undef, undef, undef, undef, undef, undef, undef, undef, undef, undef, undef, undef, u60, undef, undef, undef, undef, undef, undef, undef, undef, undef, undef, undef, undef, undef, undef, undef, undef, undef, undef, undef, undef, undef, undef, undef, undef, undef, undef, undef, undef, undef, undef, undef, undef, undef, undef, undef, undef, undef], defers := [] }) ?assign ?body ?done ?stop)
          case start =>
            have hb2 : Below wr.heap.size wr w3 := (below_alloc (Below.refl _ _) _).trans (HW3.out.2.1.mono (by simp))
            refine ⟨(HL.out.mem.ok (fun b h1 h2 => ⟨h1, .inl h2⟩) fun b q => q.1).keep fun b _ hb _ => hb2.block b hb, blk_below (blk_new wr _) HW3.out.2.1, HL.out.below.trans (hb2.mono (by have := HL.out.below.size; have := HB1.out.2; omega)), HL.out.marks.keep fun b hb _ => hb2.block b hb, by have := HW3.out.2.2.1; omega⟩
          case assign =>
            intro l x W K hK
            gi_wp2
            exact hK
          case body =>
            rintro l pre x W hI1 hlen
            have HIW := Lib.hid hI1
            obtain ⟨hK1, hK2, hK3, hK4, hK5⟩ := hI1
            obtain ⟨ws, hws⟩ : ∃ ws, ws = (kputs i (pst cs mk i) pre).1 := ⟨_, rfl⟩
            obtain ⟨bs, hbs⟩ : ∃ bs, bs = (kputs i (pst cs mk i) pre).2 := ⟨_, rfl⟩
            have hwl : ws.length = cs.length := by rw [hws]; exact (kputs_len _ _ _).1.trans (pst_len cs mk i).1
            have hbl : bs.length = cs.length := by rw [hbs]; exact (kputs_len _ _ _).2.trans (pst_len cs mk i).2
            rw [← hws, ← hbs] at hK1
            have hx := x.2
            obtain ⟨k, hk⟩ : ∃ k, k = x.1 := ⟨_, rfl⟩
            rw [← hk] at hx ⊢
            have a0 := blk_cell hK1.w8 (i := 0) rfl
            have a1 := blk_cell hK2 (i := 0) rfl
            have a2 := blk_cell hK1.g8 (i := i) (show (i64s ws).toArray[i]? = some (.int .i64 (ws.getD i 0)) by simp [i64s, List.getElem?_eq_getElem (show i < ws.length by omega)])
            have f2 := blk_frozen hK1.g8 i
            rw [hwl] at a0
            have hlb : (bs.getD k []).length ≤ i * cs.length + pre.length := by rw [hbs]; have h1 := kputs_bound i (pst cs mk i) pre k; have h2 := pst_bound cs mk i k; omega
            have HI := Lib.hid (And.intro hK1 (And.intro hK2 (And.intro hK3 (And.intro hK4 (And.intro hws (And.intro hbs (And.intro hwl (And.intro hbl (And.intro hk (And.intro hK5 (And.intro hlb hlen)))))))))))
            clear hK1 hK2 hK3 hK4 hws hbs hwl hbl hk hlen hK5 hlb
            gi_wp2
            refine nameWI ?_
            intro V hV
            have hK1 := HI.out.1.setW i (wrap64 (ws.getD i 0 + 1))
            rw [← List.getD_eq_getElem?_getD] at hV
            rw [← hV] at hK1
            obtain ⟨vs, hR⟩ := hK1.g9
            obtain ⟨v, hv⟩ : ∃ v, vs[k]? = some v := ⟨_, List.getElem?_eq_getElem (by rw [hR.len, HI.out.2.2.2.2.2.2.2.1]; exact hx)⟩
            have hrow := hR.row k v (bs.getD k []) hv (by rw [List.getD_eq_getElem?_getD, List.getElem?_eq_getElem (by rw [HI.out.2.2.2.2.2.2.2.1]; exact hx)]; rfl)
            obtain ⟨l, hll⟩ : ∃ l, l = bs.getD k [] := ⟨_, rfl⟩
            rw [← hll] at hrow
            obtain ⟨Ak, ck, rfl⟩ := own_slice hrow
            have hxb : V.heap[wr.heap.size]? = some (.cells #[.int .i64 (i : Int)] 3 (0, 0)) := by
              rw [hV]
              exact blk_far HI.out.2.1 (a := ⟨N, i, none⟩) (by have := blk_lt HL.out.mem.w9; simp; omega) _
            have b0 := blk_cell hK1.w9 (i := 0) rfl
            have b2 := blk_cell hxb (i := 0) rfl
            have b3 := blk_cell hR.blk (i := k) (show vs.toArray[k]? = some _ by simpa using hv)
            have g3 := blk_frozen hR.blk k
            have l1 := blk_lt hK1.w9
            have l2 := blk_lt hxb
            have l3 := blk_lt hR.blk
            rw [HI.out.2.2.2.2.2.2.2.1] at b0
            have hkD : decide ((k : Int) < (cs.length : Int)) = true := by simp; omega
            have hne : ∀ b, b < N + 4 → some b ≠ (Value.slice Ak l.length ck).ownBlock := fun b hb e => by have := hK1.no b (hR.ok k _ b hv e.symm); omega
            have HNE := Lib.hid hne
            have HNX : Hid (some wr.heap.size ≠ (Value.slice Ak l.length ck).ownBlock) := Lib.hid (fun e => by have := hR.ok k _ wr.heap.size hv e.symm; omega)
            have HB0 : Hid (V.heap[N + 3]? = some (.cells #[.slice (some ⟨N + 2, 0, none⟩) cs.length cs.length] 59 (0, 0))) := Lib.hid (by have := hK1.w9; rw [HI.out.2.2.2.2.2.2.2.1] at this; exact this)
            clear hne
            have HR := Lib.hid (And.intro hK1 (And.intro hR (And.intro hv (And.intro hrow (And.intro hxb (And.intro hV hll))))))
            clear hK1 hR hv hrow hxb hV hll a0 a1 a2 f2
            obtain ⟨i0, hi0, hz0, hz1, hz2⟩ := info_parts info3
            have HIN := Lib.hid (And.intro hi0 (And.intro hz0 (And.intro hz1 hz2)))
            clear hi0 hz0 hz1 hz2
            refine wpIn_round_held (S := fun w' => w'.cell? ⟨N + 3, 0, none⟩ = some (.slice (some ⟨N + 2, 0, none⟩) cs.length cs.length) ∧ w'.cell? ⟨wr.heap.size, 0, none⟩ = some (.int .i64 i)) (by kernel_rfl) (by kernel_rfl) (fun _ _ q => q) ?_
            refine wpAnyH_take (i := 0) (v := .slice (some ⟨N + 2, 0, none⟩) cs.length cs.length) rfl (by kernel_rfl) (by kernel_rfl) (by kernel_rfl) (fun _ _ _ h => h) (Or.inl ⟨by rfl, fun w' hw' => by obtain ⟨s1, s2⟩ := hw'; go_simp⟩) ⟨b0, b2⟩ ?_
            refine wpAnyH_take (i := 1) (v := .int .i64 k) rfl (by kernel_rfl) (by kernel_rfl) (by kernel_rfl) (fun _ _ _ h => h) (Or.inl ⟨by rfl, fun w' hw' => by obtain ⟨s1, s2⟩ := hw'; go_simp⟩) ⟨b0, b2⟩ ?_
            refine wpAnyH_take (i := 2) (v := .slice (some ⟨N + 2, 0, none⟩) cs.length cs.length) rfl (by kernel_rfl) (by kernel_rfl) (by kernel_rfl) (fun _ _ _ h => h) (Or.inl ⟨by rfl, fun w' hw' => by obtain ⟨s1, s2⟩ := hw'; go_simp⟩) ⟨b0, b2⟩ ?_
            refine wpAnyH_take (i := 3) (v := .int .i64 k) rfl (by kernel_rfl) (by kernel_rfl) (by kernel_rfl) (fun _ _ _ h => h) (Or.inl ⟨by rfl, fun w' hw' => by obtain ⟨s1, s2⟩ := hw'; go_simp⟩) ⟨b0, b2⟩ ?_
            refine wpAnyH_take (i := 4) (v := .pointer (some ⟨N + 2, k, none⟩)) rfl (by kernel_rfl) (by kernel_rfl) (by kernel_rfl) (fun _ _ _ h => h) (Or.inl ⟨by rfl, fun w' hw' => by obtain ⟨s1, s2⟩ := hw'; go_simp⟩) ⟨b0, b2⟩ ?_
            refine wpAnyH_take (i := 6) (v := .int .i64 i) rfl (by kernel_rfl) (by kernel_rfl) (by kernel_rfl) (fun _ _ _ h => h) (Or.inl ⟨by rfl, fun w' hw' => by obtain ⟨s1, s2⟩ := hw'; go_simp⟩) ⟨b0, b2⟩ ?_
            have hlb2 : i * cs.length ≤ 64 * 64 := Nat.mul_le_mul (by omega) h64
            have HLB : Hid (l.length + 1 ≤ maxLen ∧ (l.length + 1) * 8 ≤ 140737488355328) := Lib.hid (by have h1 := HI.out.2.2.2.2.2.2.2.2.2.2.1; have h2 := HI.out.2.2.2.2.2.2.2.2.2.2.2; rw [← HR.out.2.2.2.2.2.2] at h1; unfold maxLen; exact ⟨by omega, by omega⟩)
            clear hlb2
            refine wpAnyH_two (i := 5) (k := 7) (by kernel_rfl) rfl rfl (by rfl) (by rfl) ?_ ?_
            · intro K hK
              go_simp
              refine hK _ _ ⟨b0, b2⟩ ?_
              clear hK K
              refine wpAnyH_step (i := 7) (by kernel_rfl) rfl (by rfl) ?_
              intro K hK
              go_simp
              refine hK _ _ ⟨blk_cell (by first | exact blk_alloc HB0.out _ | exact blk_drew (blk_alloc HB0.out _)) (i := 0) rfl, blk_cell (by first | exact blk_alloc HR.out.2.2.2.2.1 _ | exact blk_drew (blk_alloc HR.out.2.2.2.2.1 _)) (i := 0) rfl⟩ ?_
              clear hK K
              refine wpAnyH_step (i := 8) (by kernel_rfl) rfl (by rfl) ?_
              intro K hK
              refine wp_app _ (.tmp 55) (.tmp 57) 25 rfl 0 3 i0 (.int .i64 0) 1 8 Try.underlying25 HIN.out.1 HIN.out.2.1 HIN.out.2.2.1 HIN.out.2.2.2 rfl (by decide) (.slice Ak l.length ck) l.length (i64s l) rfl (by first | exact HR.out.2.2.2.1.alloc _ | exact own_drew (HR.out.2.2.2.1.alloc _) | exact World.ownsRow.alloc (own_drew HR.out.2.2.2.1) _) V.heap.size 1 1 [.int .i64 (i : Int)] 3 (0, 0) rfl (by first | exact blk_new V _ | exact blk_drew (blk_new V _)) rfl (by simp [Value.oneCell']) HLB.out.1 HLB.out.2 (Nat.zero_le _) ?_
              intro A9 C9 w9 ho9 hg9 hat9
              have q0 := blk_cell (blk_grown (by first | exact blk_alloc HR.out.1.w9 _ | exact blk_drew (blk_alloc HR.out.1.w9 _)) hg9 (HNE.out _ (by omega))) (i := 0) rfl
              have qb := blk_grown (by first | exact blk_alloc HR.out.2.1.blk _ | exact blk_drew (blk_alloc HR.out.2.1.blk _)) hg9 (HNE.out _ (by omega))
              have qx := blk_cell (blk_grown (by first | exact blk_alloc HR.out.2.2.2.2.1 _ | exact blk_drew (blk_alloc HR.out.2.2.2.2.1 _)) hg9 HNX.out) (i := 0) rfl
              have q3 := blk_cell qb (i := k) (show vs.toArray[k]? = some _ by simpa using HR.out.2.2.1)
              have q4 := blk_frozen qb k
              rw [HI.out.2.2.2.2.2.2.2.1] at q0
              have H9 := Lib.hid (And.intro ho9 (And.intro hg9 hat9))
              have HQ := Lib.hid (And.intro q0 qx)
              clear qb ho9 hg9 hat9
              refine hK _ _ ⟨q0, qx⟩ ?_
              clear hK K
              refine wpAnyH_step (i := 9) (by kernel_rfl) rfl (by rfl) ?_
              intro K hK
              go_simp
              refine hK _ _ ⟨HQ.out.1, HQ.out.2⟩ ?_
              clear hK K
              refine wpAnyH_step (i := 10) (by kernel_rfl) rfl (by rfl) ?_
              intro K hK
              go_simp
              refine hK _ _ ⟨(World.cell?_of_block (w := w9) (Below.heap_setCell w9 ⟨N + 2, k, none⟩ _ (N + 3) (by simp))).trans HQ.out.1, (World.cell?_of_block (w := w9) (Below.heap_setCell w9 ⟨N + 2, k, none⟩ _ wr.heap.size (by have := blk_lt HL.out.mem.w9; simp; omega))).trans HQ.out.2⟩ ?_
              clear hK K
              refine wpAnyH_done (by kernel_rfl) ?_ _
              have hfin := I1_next (B := w3.heap.size) HIW.out HB1.out.2 (by have := blk_lt HL.out.mem.w9; omega) HI.out.2.2.2.2.1 HI.out.2.2.2.2.2.1 (by rw [← HR.out.2.2.2.2.2.1]; exact HR.out.2.1) (y := x) (by rw [← HI.out.2.2.2.2.2.2.2.2.1]; exact HR.out.2.2.1) (l := l) (by rw [← HI.out.2.2.2.2.2.2.2.2.1]; exact HR.out.2.2.2.2.2.2) (by rw [← HR.out.2.2.2.2.2.1]; first | exact below_alloc (Below.refl _ _) _ | exact below_drew1 (below_alloc (Below.refl _ _) _)) (by rw [← HR.out.2.2.2.2.2.1]; first | exact KeepsOthers.alloc _ _ | exact (KeepsOthers.alloc _ _).trans (KeepsOthers.drew _)) H9.out.2.1 H9.out.1 (by simpa using H9.out.2.2)
              rw [← HI.out.2.2.2.2.2.2.2.2.1] at hfin
              exact hfin
            · intro K hK
              go_simp
              refine hK _ _ ⟨blk_cell (by first | exact blk_alloc HB0.out _ | exact blk_drew (blk_alloc HB0.out _)) (i := 0) rfl, blk_cell (by first | exact blk_alloc HR.out.2.2.2.2.1 _ | exact blk_drew (blk_alloc HR.out.2.2.2.2.1 _)) (i := 0) rfl⟩ ?_
              clear hK K
              refine wpAnyH_step (i := 5) (by kernel_rfl) rfl (by rfl) ?_
              intro K hK
              go_simp
              refine hK _ _ ⟨blk_cell (by first | exact blk_alloc HB0.out _ | exact blk_drew (blk_alloc HB0.out _)) (i := 0) rfl, blk_cell (by first | exact blk_alloc HR.out.2.2.2.2.1 _ | exact blk_drew (blk_alloc HR.out.2.2.2.2.1 _)) (i := 0) rfl⟩ ?_
              clear hK K
              refine wpAnyH_step (i := 8) (by kernel_rfl) rfl (by rfl) ?_
              intro K hK
              refine wp_app _ (.tmp 55) (.tmp 57) 25 rfl 0 3 i0 (.int .i64 0) 1 8 Try.underlying25 HIN.out.1 HIN.out.2.1 HIN.out.2.2.1 HIN.out.2.2.2 rfl (by decide) (.slice Ak l.length ck) l.length (i64s l) rfl (by first | exact HR.out.2.2.2.1.alloc _ | exact own_drew (HR.out.2.2.2.1.alloc _) | exact World.ownsRow.alloc (own_drew HR.out.2.2.2.1) _) V.heap.size 1 1 [.int .i64 (i : Int)] 3 (0, 0) rfl (by first | exact blk_new V _ | exact blk_drew (blk_new V _)) rfl (by simp [Value.oneCell']) HLB.out.1 HLB.out.2 (Nat.zero_le _) ?_
              intro A9 C9 w9 ho9 hg9 hat9
              have q0 := blk_cell (blk_grown (by first | exact blk_alloc HR.out.1.w9 _ | exact blk_drew (blk_alloc HR.out.1.w9 _)) hg9 (HNE.out _ (by omega))) (i := 0) rfl
              have qb := blk_grown (by first | exact blk_alloc HR.out.2.1.blk _ | exact blk_drew (blk_alloc HR.out.2.1.blk _)) hg9 (HNE.out _ (by omega))
              have qx := blk_cell (blk_grown (by first | exact blk_alloc HR.out.2.2.2.2.1 _ | exact blk_drew (blk_alloc HR.out.2.2.2.2.1 _)) hg9 HNX.out) (i := 0) rfl
              have q3 := blk_cell qb (i := k) (show vs.toArray[k]? = some _ by simpa using HR.out.2.2.1)
              have q4 := blk_frozen qb k
              rw [HI.out.2.2.2.2.2.2.2.1] at q0
              have H9 := Lib.hid (And.intro ho9 (And.intro hg9 hat9))
              have HQ := Lib.hid (And.intro q0 qx)
              clear qb ho9 hg9 hat9
              refine hK _ _ ⟨q0, qx⟩ ?_
              clear hK K
              refine wpAnyH_step (i := 9) (by kernel_rfl) rfl (by rfl) ?_
              intro K hK
              go_simp
              refine hK _ _ ⟨HQ.out.1, HQ.out.2⟩ ?_
              clear hK K
              refine wpAnyH_step (i := 10) (by kernel_rfl) rfl (by rfl) ?_
              intro K hK
              go_simp
              refine hK _ _ ⟨(World.cell?_of_block (w := w9) (Below.heap_setCell w9 ⟨N + 2, k, none⟩ _ (N + 3) (by simp))).trans HQ.out.1, (World.cell?_of_block (w := w9) (Below.heap_setCell w9 ⟨N + 2, k, none⟩ _ wr.heap.size (by have := blk_lt HL.out.mem.w9; simp; omega))).trans HQ.out.2⟩ ?_
              clear hK K
              refine wpAnyH_done (by kernel_rfl) ?_ _
              have hfin := I1_next (B := w3.heap.size) HIW.out HB1.out.2 (by have := blk_lt HL.out.mem.w9; omega) HI.out.2.2.2.2.1 HI.out.2.2.2.2.2.1 (by rw [← HR.out.2.2.2.2.2.1]; exact HR.out.2.1) (y := x) (by rw [← HI.out.2.2.2.2.2.2.2.2.1]; exact HR.out.2.2.1) (l := l) (by rw [← HI.out.2.2.2.2.2.2.2.2.1]; exact HR.out.2.2.2.2.2.2) (by rw [← HR.out.2.2.2.2.2.1]; first | exact below_alloc (Below.refl _ _) _ | exact below_drew1 (below_alloc (Below.refl _ _) _)) (by rw [← HR.out.2.2.2.2.2.1]; first | exact KeepsOthers.alloc _ _ | exact (KeepsOthers.alloc _ _).trans (KeepsOthers.drew _)) H9.out.2.1 H9.out.1 (by simpa using H9.out.2.2)
              rw [← HI.out.2.2.2.2.2.2.2.2.1] at hfin
              exact hfin
          case done =>
            rintro D xs W hD rfl ⟨hK1, hK2, hK3, hK4, _⟩ hK
            have HD := Lib.hid (And.intro hD (And.intro hK1 (And.intro hK2 (And.intro hK3 (And.intro hK4 hK)))))
            clear hD hK1 hK2 hK3 hK4 hK
            go_wp2_with fail
            refine ⟨⟨_, _, _, _, _, _, _, _, _, _, ⟨i + 1, hlt, by go_num, HD.out.2.1.ok (fun b q _ => q.1) (fun _ q => q), HD.out.2.2.2.1, HL.out.marks.cons HD.out.2.2.2.2.1 (by have := HD.out.1; have := HW3.out.2.2.1; omega) (by have := HD.out.1; have := HW3.out.2.2.1; have := blk_lt HL.out.mem.w9; omega) HD.out.2.2.2.2.2⟩, rfl⟩, ?_⟩
            simp [intOf]
            omega
          case stop =>
            rintro D c pre W _ _ h _
            exact h.elim
        · obtain rfl : i = cs.length := by omega
          have hlD : decide ((cs.length : Int) < (cs.length : Int)) = false := by simp
          obtain ⟨ws0, hws0⟩ : ∃ ws0, ws0 = (pst cs mk cs.length).1 := ⟨_, rfl⟩
          obtain ⟨bs, hbs⟩ : ∃ bs, bs = (pst cs mk cs.length).2 := ⟨_, rfl⟩
          have hwl0 : ws0.length = cs.length := by rw [hws0]; exact (pst_len cs mk _).1
          have hbl0 : bs.length = cs.length := by rw [hbs]; exact (pst_len cs mk _).2
          have hrng : inR cs.length bs := by rw [hbs]; exact pst_inR cs mk _ (Nat.le_refl _)
          obtain ⟨wE, rfl⟩ : ∃ wE : World, wE = wr := ⟨_, rfl⟩
          have hsE : N + 4 ≤ wE.heap.size := by have := blk_lt HL.out.mem.w9; omega
          have hK0 : K2 N w2 wE wE ws0 bs [] (.slice none 0 0) ds := ⟨by have := HL.out.mem; rw [← hws0, ← hbs] at this; exact this.ok (fun b h1 h2 => ⟨h1, h2⟩) fun b q => q.1, World.ownsRow_nil _ _ _ _, HL.out.below, HL.out.marks, Nat.le_refl _⟩
          have OB : Hid (∀ W W' : World, Below N w2 W → Only W W' (fun b => N + 4 ≤ b ∧ ∃ o : Obj, W.heap[b]? = some o ∧ o.isCells = false) → Below w.heap.size w W') := Lib.hid (fun W W' h1 h2 => by
            have hB2 : Below w.heap.size w w2 := HW1.out.1.trans ((below_alloc (Below.refl w1.heap.size w1) _).trans (HW2.out.1.below (by simp) fun b q => Nat.le_of_eq q.symm) |>.mono HW1.out.1.size)
            have := hB2.size
            have := HB1.out.2
            exact (hB2.trans (h1.mono (by omega))).trans (h2.below (by have := h1.size; omega) fun b q => by have := q.1; omega))
          have HP := Lib.hid (And.intro hws0 (And.intro hbs (And.intro hwl0 (And.intro hbl0 (And.intro hrng (And.intro hsE hK0))))))
          clear hws0 hbs hwl0 hbl0 hrng hsE hK0
          go_wp2_with fail
          go_loopw [12] (fun s12 W => ∃ (j : Nat) (os : List Nat) (ws : List Int), j ≤ cs.length ∧ kat bs ws0 j = some (os, ws) ∧ K2 N w2 wE W ws bs (froms cs os) s12 ds) (fun s12 _ => match s12 with | .slice _ n _ => cs.length - n | _ => 0)
          case atStart => exact ⟨0, [], ws0, Nat.zero_le _, rfl, HP.out.2.2.2.2.2.2⟩
          case round =>
            obtain ⟨j, os, ws, hj, hat, hK⟩ := hrel
            obtain ⟨ho1, ho2, ho3⟩ := kat_len _ _ hat
            dsimp only at ho1 ho2 ho3
            have hwl : ws.length = cs.length := ho2.trans HP.out.2.2.1
            have hfl : (froms cs os).length = j := by unfold froms; rw [List.length_map]; exact ho1
            obtain ⟨A12, c12, rfl⟩ := own_slice hK.row
            have a0 := blk_cell hK.mem.w8 (i := 0) rfl
            rw [hwl] at a0
            rw [hfl]
            have hN2 : N ≤ wr.heap.size := by have := hK.size; have := HP.out.2.2.2.2.2.1; omega
            have HK := Lib.hid (And.intro hat (And.intro hK (And.intro ho3 (And.intro hwl (And.intro hfl hN2)))))
            clear hat hK ho1 ho2 ho3 hwl hfl hN2
            by_cases hlt : j < cs.length
            · have hlD : decide ((j : Int) < (cs.length : Int)) = true := by simp; omega
              have hlN : decide (j < cs.length) = true := by simp; omega
              have hix := index_calls (some ⟨N, 0, none⟩) ws.length ws 0 (HK.out.2.1.mem.reads (by have := HK.out.2.2.2.1; omega)) (Nat.le_refl _) (by have := HK.out.2.2.2.1; omega)
              rw [HK.out.2.2.2.1] at hix
              cases hidx : idx ws 0 with
              | none =>
                rw [hidx] at hix
                simp only [idxI] at hix
                have HX := Lib.hid hidx
                clear hidx
                go_wp2_with fail
                refine hix.mono ?_
                rintro e w4 ⟨rfl, ⟨nd, rfl⟩⟩
                have hK4 : K2 N w2 wE (wr.drewN nd) ws bs (froms cs os) (.slice A12 (froms cs os).length c12) ds := HK.out.2.1.of (pw_below_drewN (Below.refl _ _) _) HK.out.2.2.2.2.2
                have HK4 := Lib.hid hK4
                clear hix hK4
                go_wp2_with fail
                refine leaves_marks ds _ HK4.out.marks ?_
                intro W' ho
                refine ⟨_, results_tmp3 rfl _ _ _, ?_⟩
                have hB := OB.out _ _ HK4.out.below ho
                have hfin : OrdPost w l0 (.returned (.tuple #[.slice none 0 0, .bool false, .int .i64 0])) W' := OrdPost.none2 HRD.out.1 HM.out.1 (ordB_none hlt (by rw [← HP.out.1, ← HP.out.2.1]; exact HK.out.1) HX.out) hB
                exact hfin
              | some i =>
                rw [hidx] at hix
                simp only [idxI] at hix
                have HX := Lib.hid hidx
                have hic : i < cs.length := by have := (idx_some hidx).1; have := HK.out.2.2.2.1; omega
                clear hidx
                go_wp2_with fail
                refine hix.mono ?_
                rintro e w4 ⟨rfl, ⟨nd, rfl⟩⟩
                have hK4 : K2 N w2 wE (wr.drewN nd) ws bs (froms cs os) (.slice A12 (froms cs os).length c12) ds := HK.out.2.1.of (pw_below_drewN (Below.refl _ _) _) HK.out.2.2.2.2.2
                have HK4 := Lib.hid hK4
                clear hix hK4
                have hiD : decide ((i : Int) < (cs.length : Int)) = true := by simp; omega
                have c8 := blk_cell HK4.out.mem.g8 (i := i) (show (i64s ws).toArray[i]? = some (.int .i64 (ws.getD i 0)) by have := HK.out.2.2.2.1; simp [i64s, List.getElem?_eq_getElem (show i < ws.length by omega)])
                have f8 := blk_frozen HK4.out.mem.g8 i
                have a9 := blk_cell HK4.out.mem.w9 (i := 0) rfl
                rw [HP.out.2.2.2.1] at a9
                obtain ⟨vs, hR⟩ := HK4.out.mem.g9
                obtain ⟨v, hv⟩ : ∃ v, vs[i]? = some v := ⟨_, List.getElem?_eq_getElem (by rw [hR.len, HP.out.2.2.2.1]; exact hic)⟩
                have hrow := hR.row i v (bs.getD i []) hv (by rw [List.getD_eq_getElem?_getD, List.getElem?_eq_getElem (by rw [HP.out.2.2.2.1]; exact hic)]; rfl)
                obtain ⟨l, hll⟩ : ∃ l, l = bs.getD i [] := ⟨_, rfl⟩
                rw [← hll] at hrow
                have hlb : l.length ≤ 4096 := by
                  have h1 := pst_bound cs mk cs.length i
                  have h2 : cs.length * cs.length ≤ 64 * 64 := Nat.mul_le_mul h64 h64
                  rw [hll, HP.out.2.1]
                  omega
                obtain ⟨Ai, ci, rfl⟩ := own_slice hrow
                have b3 := blk_cell hR.blk (i := i) (show vs.toArray[i]? = some _ by simpa using hv)
                have HL3 := Lib.hid (And.intro hR (And.intro hv (And.intro hrow hll)))
                clear hR hv hrow hll
                go_wp2_with fail
                obtain ⟨wo, rfl⟩ : ∃ wo : World, wo = wr := ⟨_, rfl⟩
                clear a0 c8 f8 a9 b3
                go_loopw [78] (fun s78 W => ∃ q : Nat, q ≤ l.length ∧ s78 = .int .i64 q ∧ K2 N w2 wE W ((l.take q).foldl dec1 (ws.set i (-1))) bs (froms cs os) (.slice A12 (froms cs os).length c12) ds ∧ RowsAt W (N + 2) bs (fun b => N + 4 ≤ b ∧ b < wE.heap.size) vs) (fun s78 _ => l.length - (intOf s78).toNat)
                case atStart =>
                  refine ⟨0, Nat.zero_le _, rfl, HK4.out.setW (by have := HP.out.2.2.2.2.2.1; omega) i (-1), HL3.out.1.keep fun b hb _ _ => Below.heap_setCell (wo.drewN nd) ⟨N, i, none⟩ _ b ?_⟩
                  rcases hb with rfl | q
                  · simp
                  · have := q.1; simp; omega
                case round =>
                  obtain ⟨q, hq, rfl, hKq, hRq⟩ := hrel
                  obtain ⟨wq, hwq⟩ : ∃ wq, wq = (l.take q).foldl dec1 (ws.set i (-1)) := ⟨_, rfl⟩
                  rw [← hwq] at hKq
                  have hwql : wq.length = cs.length := by rw [hwq, dec_len, List.length_set]; exact HK.out.2.2.2.1
                  have HQ := Lib.hid (And.intro hKq (And.intro hRq (And.intro hwq hwql)))
                  clear hKq hRq hwq hwql
                  by_cases hql : q < l.length
                  · have hqD : decide ((q : Int) < (l.length : Int)) = true := by simp; omega
                    have hqN : decide (q < l.length) = true := by simp; omega
                    obtain ⟨x, hx⟩ : ∃ x, l[q]? = some x := ⟨_, List.getElem?_eq_getElem hql⟩
                    have hxr := HP.out.2.2.2.2.1 i x (by rw [← HL3.out.2.2.2]; exact List.mem_of_getElem? hx)
                    obtain ⟨k, rfl⟩ : ∃ k : Nat, x = k := ⟨x.toNat, by omega⟩
                    have hkl : k < cs.length := by omega
                    have hro := HQ.out.2.1.row i _ l HL3.out.2.1 (by rw [HL3.out.2.2.2, List.getD_eq_getElem?_getD, List.getElem?_eq_getElem (by rw [HP.out.2.2.2.1]; exact hic)]; rfl)
                    obtain ⟨gi, ci2, hvi, hcell, _, _⟩ := own_cell hro (i := q) (show (i64s l)[q]? = some (.int .i64 (k : Nat)) by simp [i64s, hx])
                    injection hvi with h1 _ h3
                    subst h1
                    subst h3
                    have a0 := blk_cell HQ.out.1.mem.w8 (i := 0) rfl
                    rw [HQ.out.2.2.2] at a0
                    have c8 := blk_cell HQ.out.1.mem.g8 (i := k) (show (i64s wq).toArray[k]? = some (.int .i64 (wq.getD k 0)) by have := HQ.out.2.2.2; simp [i64s, List.getElem?_eq_getElem (show k < wq.length by omega)])
                    have f8 := blk_frozen HQ.out.1.mem.g8 k
                    have hkD : decide ((k : Int) < (cs.length : Int)) = true := by simp; omega
                    have HX2 := Lib.hid hx
                    clear hx hxr hro
                    go_wp2_with fail
                    go_roundw
                    case rel =>
                      refine ⟨q + 1, by omega, by go_num, ?_, HQ.out.2.1.keep fun b hb _ _ => Below.heap_setCell wr ⟨N, k, none⟩ _ b ?_⟩
                      · rw [List.take_add_one, HX2.out, Option.toList_some, List.foldl_append, ← HQ.out.2.2.1]
                        have := HQ.out.1.setW (by have := HP.out.2.2.2.2.2.1; omega) k (wrap64 (wq.getD k 0 - 1))
                        simpa [dec1] using this
                      · rcases hb with rfl | q
                        · simp
                        · have := q.1; simp; omega
                    case measure => simp [intOf]; omega
                  · obtain rfl : q = l.length := by omega
                    have hqD : decide ((l.length : Int) < (l.length : Int)) = false := by simp
                    obtain ⟨ad, E7, e7, E8, e8, hA, y0, _⟩ := at_T70 HBK.out.row i (by omega) (by omega)
                    subst hA
                    simp only [Int.toNat_natCast] at y0
                    have hbw : Below w2.heap.size w2 wr := by have := HQ.out.1.below; rw [HB1.out.2] at this; exact this
                    replace y0 := (hbw.cell (World.block_lt_of_cell? w2 _ y0)).trans y0
                    clear hbw
                    have hu := Try.underlying65
                    have hrow9 : wr.ownsRow wE.heap.size 3 1 (.slice A12 j c12) j (i64s (froms cs os)) := by
                      have := HQ.out.1.row
                      rw [HK.out.2.2.2.2.1] at this
                      exact this
                    have HR9 := Lib.hid hrow9
                    obtain ⟨i0, hi0, hz0, hz1, hz2⟩ := info_parts info3
                    have HIN := Lib.hid (And.intro hi0 (And.intro hz0 (And.intro hz1 hz2)))
                    have HSZ := Lib.hid HQ.out.1.size
                    clear hi0 hz0 hz1 hz2 hrow9
                    go_wp2_with (refine wpl_app _ rfl (.tmp 89) (.tmp 95) 25 rfl wE.heap.size 3 i0 (.int .i64 0) 1 8 Try.underlying25 HIN.out.1 HIN.out.2.1 HIN.out.2.2.1 HIN.out.2.2.2 rfl (by decide) (.slice A12 j c12) j (i64s (froms cs os)) rfl (HR9.out.alloc _) wr.heap.size 1 1 [.int .i64 (rd_T70 cs i).f0] 3 (0, 0) rfl (blk_new wr _) rfl (by simp [Value.oneCell']) (by unfold maxLen; omega) (by omega) (by have := HSZ.out; simp; omega) ?_; intro A9 C9 w9 ho9 hg9 hat9; have H9 := Lib.hid (And.intro ho9 hg9); clear ho9 hg9 hat9)
                    go_roundw
                    case rel =>
                      refine ⟨j + 1, os ++ [i], l.foldl dec1 (ws.set i (-1)), hlt, ?_, ?_⟩
                      · show (kat bs ws0 j).bind (kstep bs) = _
                        rw [HK.out.1]
                        show kstep bs (os, ws) = _
                        unfold kstep
                        rw [HX.out, HL3.out.2.2.2]
                        rfl
                      · have h1 := HQ.out.1
                        rw [HQ.out.2.2.1, List.take_length] at h1
                        have h2 := h1.app (W1 := wr.alloc (.cells #[.int .i64 (rd_T70 cs i).f0] 3)) (W2 := w9) (x := (rd_T70 cs i).f0) (A := A9) (C := C9) HP.out.2.2.2.2.2.1 (below_alloc (Below.refl _ _) _) (by have := H9.out.2; rw [HK.out.2.2.2.2.1]; exact this) (by have := H9.out.1; rw [HK.out.2.2.2.2.1]; exact this)
                        rw [HK.out.2.2.2.2.1] at h2
                        have h3 : froms cs (os ++ [i]) = froms cs os ++ [(rd_T70 cs i).f0] := by simp [froms]
                        rw [h3]
                        exact h2
                    case measure => show cs.length - (j + 1) < cs.length - j; omega
            · obtain rfl : j = cs.length := by omega
              have hlD : decide ((cs.length : Int) < (cs.length : Int)) = false := by simp
              go_wp2_with fail
              refine leaves_marks ds _ HK.out.2.1.marks ?_
              intro W' ho
              refine ⟨_, results_tmp3 rfl _ _ _, ?_⟩
              have hB := OB.out _ _ HK.out.2.1.below ho
              have hfin : OrdPost w l0 (.returned (.tuple #[.slice A12 cs.length c12, .bool true, .int .i64 0])) W' := OrdPost.yes HRD.out.1 HM.out.1 (os := os) (by unfold ordB; rw [← HP.out.1, ← HP.out.2.1, HK.out.1]; rfl) hB (by
                have h1 := HK.out.2.1.row
                rw [HK.out.2.2.2.2.1] at h1 ⊢
                exact own_marks h1 ho (by have := HP.out.2.2.2.2.2.1; have := HB1.out.2; have := HW1.out.1.size; have := HW2.out.1.size; simp at this; omega))
              exact hfin
end Go.Proofs.Ytfahoomkpammiaa
