/- A step towards the laws on the cells of a run: the contract of Live. No conditions of its own beyond those that its theorems name. -/
import Derived.Test.YtabfmoedbnpihaaKFixed
import Derived.Test.YtabfmoedbnpihaaKLaid
namespace Go.Proofs.Ytabfmoedbnpihaa
open Go.RowKit Go.MapKept Go.WideElems Go.Maps Go.Sort Go.Shelf

/-- how an element reads here: as nothing -/
def blankElem {H : Type} : Value → Option (DataW H × List MemPlace) := fun _ => some (.nil, [])

theorem insert_perm {H : Type} (x : Lit × DataW H) : ∀ l : List (Lit × DataW H), (DataW.insert x l).Perm (x :: l)
  | [] => List.Perm.refl _
  | y :: r => by
    simp only [DataW.insert]
    split
    · exact List.Perm.refl _
    · exact ((insert_perm x r).cons y).trans (List.Perm.swap x y r)
theorem inserts_perm {H : Type} : ∀ l : List (Lit × DataW H), (l.foldr DataW.insert []).Perm l
  | [] => List.Perm.refl _
  | x :: l => (insert_perm x _).trans ((inserts_perm l).cons x)

/-- the number of an entry's key -/
def keyN (x : MapEntry) : Int := match x.key with
  | .int _ n => n
  | _ => 0
theorem keyN_of {x : MapEntry} {k : Int} (h : x.key = .int .i64 k) : keyN x = k := by unfold keyN; rw [h]

theorem rising_len : ∀ (l : List Int) (lo hi : Int), l.Pairwise (· < ·) → (∀ x ∈ l, lo ≤ x ∧ x ≤ hi) → lo ≤ hi + 1 → (l.length : Int) ≤ hi - lo + 1
  | [], lo, hi, _, _, h => by simp; omega
  | x :: l, lo, hi, hp, hb, h => by
    rw [List.pairwise_cons] at hp
    have h1 := hb x (by simp)
    have := rising_len l (x + 1) hi hp.2 (fun y hy => ⟨hp.1 y hy, (hb y (by simp [hy])).2⟩) (by omega)
    simp only [List.length_cons]
    omega
theorem sorted_rising {l : List Int} (hn : l.Nodup) : (l.mergeSort leI).Pairwise (· < ·) := by
  have tr : ∀ a b c : Int, leI a b = true → leI b c = true → leI a c = true := fun a b c h1 h2 => by simp only [leI, decide_eq_true_eq] at *; exact Int.le_trans h1 h2
  have tot : ∀ a b : Int, (leI a b || leI b a) = true := fun a b => by simp only [leI, Bool.or_eq_true, decide_eq_true_eq]; exact Int.le_total a b
  have h1 := List.pairwise_mergeSort tr tot l
  have h2 : (l.mergeSort leI).Nodup := (List.mergeSort_perm l leI).nodup_iff.2 hn
  refine (h1.and h2).imp ?_
  intro a b ⟨h, hne⟩
  simp only [leI, decide_eq_true_eq] at h
  exact Int.lt_iff_le_and_ne.2 ⟨h, hne⟩
theorem nodup_len {l : List Int} {md : Nat} (hn : l.Nodup) (hb : ∀ x ∈ l, 1 ≤ x ∧ x ≤ (md : Int)) : l.length ≤ md := by
  have hr := sorted_rising hn
  have h1 := rising_len (l.mergeSort leI) 1 md hr (fun x hx => hb x ((List.mergeSort_perm l leI).mem_iff.1 hx)) (by omega)
  rw [(List.mergeSort_perm l leI).length_eq] at h1
  omega

theorem IMap.owns {w : World} {b : Nat} {f : Int → Option Value} {md : Nat} (h : IMap w b f) (hb : ∀ k, f k ≠ none → 1 ≤ k ∧ k ≤ (md : Int)) (hmd : md ≤ 9223372036854775806) :
    ∃ (nn : Nat) (D0 : DataW Unit), w.ownsMap Try.prog 3 blankElem b nn D0 ∧ (intKeys D0).Nodup ∧ (∀ k, k ∈ intKeys D0 ↔ f k ≠ none) ∧ Maps.size D0 ≤ md := by
  obtain ⟨es, clock, hbk, hs, hk, hf⟩ := h
  have key : ∀ x ∈ es.toList, ∃ k, x.key = .int .i64 k ∧ f k = some x.val := fun x hx => by
    obtain ⟨k, hkx⟩ := isKey_form (hk x hx)
    exact ⟨k, hkx, by rw [← hf k]; exact look_some hs.2.2 hx hkx⟩
  have hrd : ∀ x ∈ es.toList, WideElems.rd Try.prog 3 (blankElem (H := Unit)) x = some (.int .i64 (keyN x), .nil) := fun x hx => by
    obtain ⟨k, hkx, hfk⟩ := key x hx
    have hbb := hb k (by rw [hfk]; simp)
    have hw : (Lit.int .i64 k).wf = true := by
      have e1 : IntKind.i64.min = -9223372036854775808 := by decide
      have e2 : IntKind.i64.max = 9223372036854775807 := by decide
      simp only [Lit.wf, e1, e2]
      simp
      omega
    rw [keyN_of hkx]
    unfold WideElems.rd
    rw [hkx]
    simp [keyOf, Try.underlying3, mapKey, hw, blankElem]
  have hrg : es.toList.map (WideElems.rg Try.prog 3 (blankElem (H := Unit))) = es.toList.map fun x => (.int .i64 (keyN x), .nil) := List.map_congr_left fun x hx => WideElems.rg_of (hrd x hx)
  have hnd : (es.toList.map keyN).Nodup := by
    have h1 := hs.2.2
    rw [List.nodup_iff_pairwise_ne, List.pairwise_map] at h1 ⊢
    refine h1.imp_of_mem ?_
    intro a c ha hc hne e
    obtain ⟨k, hka, _⟩ := key a ha
    obtain ⟨k', hkc, _⟩ := key c hc
    rw [keyN_of hka, keyN_of hkc] at e
    exact hne (by rw [hka, hkc, e])
  have hmem : ∀ k, k ∈ es.toList.map keyN ↔ f k ≠ none := fun k => by
    constructor
    · intro hkm
      obtain ⟨x, hx, rfl⟩ := List.mem_map.1 hkm
      obtain ⟨k, hkx, hfk⟩ := key x hx
      rw [keyN_of hkx, hfk]
      simp
    · intro hne
      cases e : f k with
      | none => exact absurd e hne
      | some v =>
        rw [← hf k] at e
        obtain ⟨x, hx, hxk, _⟩ := look_mem e
        exact List.mem_map.2 ⟨x, hx, keyN_of hxk⟩
  have hlen : es.size ≤ md := by
    have := nodup_len hnd (fun x hx => hb x ((hmem x).1 hx))
    simpa using this
  have hperm : (intKeys (.map ((es.toList.map (WideElems.rg Try.prog 3 (blankElem (H := Unit)))).foldr DataW.insert []))).Perm (es.toList.map keyN) := by
    unfold intKeys
    refine ((inserts_perm _).map _).trans ?_
    rw [hrg, List.map_map]
    exact List.Perm.refl _
  refine ⟨es.size, _, ⟨es, clock, hbk, ⟨?_, hs, fun x hx => ⟨_, hrd x hx⟩⟩, Nat.le_refl _, rfl⟩, hperm.nodup_iff.2 hnd, fun k => (hperm.mem_iff).trans (hmem k), ?_⟩
  · unfold maxLen
    omega
  · rw [size_eq, (inserts_perm _).length_eq]
    simpa using hlen

theorem sortsA (m : Nat) : AnyZI.SortsIn Try.prog Try.sortedA_ren Fence.wide m :=
  ⟨fun blk off cap ss W hH hblk hsz => callsIn_wide.2 (AnyM.slices_Sort_int Try.sortA blk off cap ss W hH hblk hsz),
   fun p cap W => callsIn_wide.2 (AnyM.slices_Sort_int_none Try.sortA p cap W)⟩

set_option maxHeartbeats 1000000 in
theorem live_walk (w : World) (p b nn : Nat) (gv cv fv : Value) (h : w.heap[p]? = some (.cells #[gv, .map (some b), cv, fv] 66 (0, 0))) (D0 : DataW Unit) (hown : w.ownsMap Try.prog 3 blankElem b nn D0)
    (hmax : Maps.size D0 ≤ maxLen) (hbytes : Maps.size D0 * 8 ≤ 140737488355328) :
    Calls Try.prog 20 #[.pointer (some ⟨p, 0, none⟩)] w fun e w' => ∃ (v : Value) (ss : List Int), e = .returned v ∧ ss.Perm (intKeys D0) ∧
      w'.ownsRow w.heap.size 3 1 v ss.length ((ss.mergeSort (fun x y => decide (x ≤ y))).map encZ) ∧ Below w.heap.size w w' := by
  have hbl := hown.lt
  have c1 : w.cell? ⟨p, 1, none⟩ = some (.map (some b)) := blk_cell h rfl
  have hseq : SeqGives Fence.wide 2 Try.prog 48 #[.pointer (some ⟨w.heap.size, 0, none⟩)] encZ (fun ss => ss.Perm (intKeys D0)) (Maps.size D0) (w.alloc (.cells #[.map (some b)] 64)) :=
    AnyZI.keys_gives (ρ := Try.keysA_ren) { Try.keysA with } Fence.wide _ trivial rfl (by omega) w.heap.size b nn D0 _ (by simp) (by simp) (by
      obtain ⟨es, clock, hb, Ft, hs, hD⟩ := hown
      exact ⟨es, clock, (Below.heap_alloc _ _ b hbl).trans hb, Ft, hs, hD⟩)
  have cK : ∀ mb W, CallsIn Fence.wide 5 Try.prog 34 #[.map mb] W fun e w' => e = .returned (.func (.func 48) #[] #[.pointer (some ⟨W.heap.size, 0, none⟩)]) ∧ w' = W.alloc (.cells #[.map mb] 64) := fun mb W => AnyZI.keys_in Try.keysA Fence.wide 5 trivial rfl mb W
  have cS := AnyZI.sorted_in Try.sortedA Fence.wide 5 trivial trivial trivial trivial rfl (by omega) (sortsA _) (enters_of Try.func47 (by kernel_rfl) rfl) 48 #[.pointer (some ⟨w.heap.size, 0, none⟩)] trivial (enters_of Try.func48 (by kernel_rfl) rfl) _ _ hmax hbytes _ hseq
  change CallsIn _ _ Try.prog 33 _ _ _ at cS
  have hK := Lib.hid (callsIn_wide.1 (cK (some b) w))
  have hS := Lib.hid (callsIn_wide.1 cS)
  clear hseq cK cS hown hmax hbytes h
  go_enter Try.func20, Try.ntmps20
  go_wp2_with fail
  refine hK.out.mono ?_
  rintro e w1 ⟨rfl, rfl⟩
  go_wp2_with fail
  refine hS.out.mono ?_
  rintro e w1 ⟨v, ss, rfl, hp, hrow, hnil, hb⟩
  have HR := Lib.hid (And.intro hp (And.intro hrow hb))
  clear hp hrow hnil hb
  go_wp2_with fail
  go_ret
  exact ⟨v, ss, rfl, HR.out.1, ownsRow_base_a HR.out.2.1 (by simp), ((Below.refl _ w).alloc (Nat.le_refl _) _).trans (HR.out.2.2.mono (by simp))⟩

/-- what lives has a number that was given -/
abbrev PM.Dom (M : PM) : Prop := ∀ k, M.cells k ≠ none → 1 ≤ k ∧ k ≤ (M.made : Int)
/-- the cells that live, by number, rising -/
structure LiveIs (M : PM) (ss : List Int) : Prop where
  rising : ss.Pairwise (· < ·)
  mem : ∀ k, k ∈ ss ↔ M.cells k ≠ none

theorem cellIs_same {w : World} {lab : Lab} {k : Int} {a : Option Value} {b : Option (List (Int × Int))} (h : CellIs w lab k a b) : a = none ↔ b = none := by
  cases a <;> cases b
  · simp
  · exact h.elim
  · exact h.elim
  · simp

theorem live_any {w : World} {p : Nat} {lab : Lab} {M : PM} (h : MemAt w p lab M) (hd : M.Dom) (hmd : M.made < Lim) :
    Calls Try.prog 20 #[.pointer (some ⟨p, 0, none⟩)] w fun e w' => ∃ (v : Value) (ss : List Int), e = .returned v ∧ LiveIs M ss ∧ w'.ownsRow w.heap.size 3 1 v ss.length (ss.map (Value.int .i64)) ∧ Fresh w w' := by
  obtain ⟨gb, bm, fv, vs, f, h⟩ := h
  unfold Lim at hmd
  have hsame : ∀ k, f k ≠ none ↔ M.cells k ≠ none := fun k => not_congr (cellIs_same (h.cells k))
  obtain ⟨nn, D0, hown, hnd, hmem, hsz⟩ := h.map.owns (md := M.made) (fun k hk => hd k ((hsame k).1 hk)) (by omega)
  refine (live_walk w p bm nn _ _ _ h.self D0 hown (by unfold maxLen; omega) (by omega)).mono ?_
  rintro e w' ⟨v, ss, rfl, hp, hrow, hb⟩
  have hlen := (List.mergeSort_perm ss (fun x y => decide (x ≤ y))).length_eq
  refine ⟨v, ss.mergeSort (fun x y => decide (x ≤ y)), rfl, ⟨sorted_rising (hp.nodup_iff.2 hnd), fun k => ?_⟩, by rw [hlen]; exact hrow, Only.of_below hb fun c h1 h2 => by omega⟩
  rw [(List.mergeSort_perm ss _).mem_iff, hp.mem_iff, hmem k]
  exact hsame k
end Go.Proofs.Ytabfmoedbnpihaa
