/- Steps towards the law (texts of this seat, put into one). No conditions of its own beyond those that its theorems name. -/
import Derived.Test.YtfahoomkpammiaaZC1
import Derived.Deep.DeepCutAuto
import Derived.Deep.DeepFit
import Derived.IntWalk
import Derived.Test.YtfahoomkpammiaaZC0
import Derived.Laws.Rows
import Derived.LoopTactic
import Derived.Test.YtfahoomkpammiaaPHistOrdersx1
namespace Go.Proofs.Ytfahoomkpammiaa
open Go.RowKit Go.MapKept
theorem rinfoInt : (Try.prog.info? 3).map (fun i => (i.zero, i.size, i.bytes)) = some (some (.int .i64 0), 1, 8) := by kernel_rfl
theorem rinfoStr : (Try.prog.info? 9).map (fun i => (i.zero, i.size, i.bytes)) = some (some (.string ⟨#[]⟩), 1, 16) := by kernel_rfl
def TabS (t : Nat) (vk vv : Value) (b : Nat) : Prop := b = t ∨ vk.ownBlock = some b ∨ vv.ownBlock = some b
structure RRaw (W : World) (t base : Nat) (K : List Int) (V : List ByteArray) (vk vv : Value) : Prop where
  blk : W.heap[t]? = some (.cells #[vk, vv] 76 (0, 0))
  keys : W.ownsRow base 3 1 vk K.length (intsV K)
  vals : W.ownsRow base 9 1 vv V.length (strsV V)
  out : t < base
  apart : ∀ g, vk.ownBlock = some g → vv.ownBlock ≠ some g
theorem RTab.raw {W : World} {t base : Nat} {K : List Int} {V : List ByteArray} {vk vv : Value} (h : RTab W t base K V vk vv) : RRaw W t base K V vk vv := ⟨h.blk, h.keys, h.vals, h.out, h.apart⟩
theorem row_move {W W1 : World} {base n : Nat} {e : TypeId} {v : Value} {xs : List Value} (h : W.ownsRow base e 1 v n xs) (hk : ∀ g, v.ownBlock = some g → W1.heap[g]? = W.heap[g]?) : W1.ownsRow base e 1 v n xs := by
  refine ⟨h.1, ?_⟩
  rcases h.2 with hh | ⟨g, cap, cur, rfl, h1, hgg, rest⟩
  · exact .inl hh
  · refine .inr ⟨g, cap, cur, rfl, h1, ?_, rest⟩
    rw [hk g rfl]
    exact hgg
theorem RRaw.growK {W W1 : World} {t base : Nat} {K : List Int} {V : List ByteArray} {vk vv : Value} (h : RRaw W t base K V vk vv) {k : Int} {o1 : Obj} {A1 : Option Addr} {C1 : Nat}
    (ho1 : W1.ownsRow base 3 1 (.slice A1 (K.length + 1) C1) (K.length + 1) (intsV K ++ [.int .i64 k])) (hg1 : (W.alloc o1).grownBy W1 vk.ownBlock) (ha1 : A1.map Addr.block = vk.ownBlock ∨ A1.map Addr.block = some (W.alloc o1).heap.size) :
    RRaw (W1.setCell ⟨t, 0, none⟩ (.slice A1 (K.length + 1) C1)) t base (K ++ [k]) V (.slice A1 (K.length + 1) C1) vv ∧ Only W (W1.setCell ⟨t, 0, none⟩ (.slice A1 (K.length + 1) C1)) (TabS t vk vv) := by
  have hkt : some t ≠ vk.ownBlock := fun e => by have := (h.keys.lt t e.symm).1; have := h.out; omega
  have hvt : some t ≠ vv.ownBlock := fun e => by have := (h.vals.lt t e.symm).1; have := h.out; omega
  have hst : ∀ b, b < W.heap.size → some b ≠ vk.ownBlock → W1.heap[b]? = W.heap[b]? := fun b hb hn => (hg1.block b (by simp; omega) hn).trans (Below.heap_alloc W o1 b hb)
  have hset : ∀ b, b ≠ t → (W1.setCell ⟨t, 0, none⟩ (.slice A1 (K.length + 1) C1)).heap[b]? = W1.heap[b]? := fun b hb => Below.heap_setCell W1 ⟨t, 0, none⟩ _ b hb
  have hA : ∀ g, A1.map Addr.block = some g → (vk.ownBlock = some g) ∨ W.heap.size < g := fun g e => by
    rcases ha1 with q | q
    · rw [q] at e; exact .inl e
    · rw [q] at e; cases e; exact .inr (by simp)
  have htw := blk_lt h.blk
  refine ⟨⟨?_, ?_, ?_, h.out, fun g e q => ?_⟩, ?_⟩
  · have := blk_set ((hst t htw hkt).trans h.blk) 0 (.slice A1 (K.length + 1) C1)
    rw [this]
    rfl
  · rw [List.length_append, List.length_singleton]
    refine own_far (by simpa [intsV] using ho1) (fun e => ?_) _
    rw [own_map] at e
    rcases hA _ e with q | q
    · exact hkt q.symm
    · simp at q; omega
  · refine row_move h.vals fun g e => ?_
    have hgl := own_lt h.vals e
    have hgt : g ≠ t := fun q => hvt (by rw [e, q])
    exact (hset g hgt).trans (hst g hgl fun q => h.apart g q.symm e)
  · rw [own_map] at e
    rcases hA g e with q1 | q1
    · exact h.apart g q1 q
    · have := own_lt h.vals q; omega
  · refine ⟨hg1.os, hg1.tape, hg1.output, ?_, fun b hb hn => ?_⟩
    · have := hg1.size; simp at this; simp [World.setCell]; omega
    · unfold TabS at hn
      exact (hset b fun q => hn (.inl q)).trans (hst b hb fun q => hn (.inr (.inl q.symm)))
theorem RRaw.growV {W W1 : World} {t base : Nat} {K : List Int} {V : List ByteArray} {vk vv : Value} (h : RRaw W t base K V vk vv) {k : ByteArray} {o1 : Obj} {A1 : Option Addr} {C1 : Nat}
    (ho1 : W1.ownsRow base 9 1 (.slice A1 (V.length + 1) C1) (V.length + 1) (strsV V ++ [.string k])) (hg1 : (W.alloc o1).grownBy W1 vv.ownBlock) (ha1 : A1.map Addr.block = vv.ownBlock ∨ A1.map Addr.block = some (W.alloc o1).heap.size) :
    RRaw (W1.setCell ⟨t, 1, none⟩ (.slice A1 (V.length + 1) C1)) t base K (V ++ [k]) vk (.slice A1 (V.length + 1) C1) ∧ Only W (W1.setCell ⟨t, 1, none⟩ (.slice A1 (V.length + 1) C1)) (TabS t vk vv) := by
  have hkt : some t ≠ vk.ownBlock := fun e => by have := (h.keys.lt t e.symm).1; have := h.out; omega
  have hvt : some t ≠ vv.ownBlock := fun e => by have := (h.vals.lt t e.symm).1; have := h.out; omega
  have hst : ∀ b, b < W.heap.size → some b ≠ vv.ownBlock → W1.heap[b]? = W.heap[b]? := fun b hb hn => (hg1.block b (by simp; omega) hn).trans (Below.heap_alloc W o1 b hb)
  have hset : ∀ b, b ≠ t → (W1.setCell ⟨t, 1, none⟩ (.slice A1 (V.length + 1) C1)).heap[b]? = W1.heap[b]? := fun b hb => Below.heap_setCell W1 ⟨t, 1, none⟩ _ b hb
  have hA : ∀ g, A1.map Addr.block = some g → (vv.ownBlock = some g) ∨ W.heap.size < g := fun g e => by
    rcases ha1 with q | q
    · rw [q] at e; exact .inl e
    · rw [q] at e; cases e; exact .inr (by simp)
  have htw := blk_lt h.blk
  refine ⟨⟨?_, ?_, ?_, h.out, fun g e q => ?_⟩, ?_⟩
  · have := blk_set ((hst t htw hvt).trans h.blk) 1 (.slice A1 (V.length + 1) C1)
    rw [this]
    rfl
  · refine row_move h.keys fun g e => ?_
    have hgl := own_lt h.keys e
    have hgt : g ≠ t := fun q => hkt (by rw [e, q])
    exact (hset g hgt).trans (hst g hgl fun q => h.apart g e q.symm)
  · rw [List.length_append, List.length_singleton]
    refine own_far (by simpa [strsV] using ho1) (fun e => ?_) _
    rw [own_map] at e
    rcases hA _ e with q | q
    · exact hvt q.symm
    · simp at q; omega
  · rw [own_map] at q
    rcases hA g q with q1 | q1
    · exact h.apart g e q1
    · have := own_lt h.keys e; omega
  · refine ⟨hg1.os, hg1.tape, hg1.output, ?_, fun b hb hn => ?_⟩
    · have := hg1.size; simp at this; simp [World.setCell]; omega
    · unfold TabS at hn
      exact (hset b fun q => hn (.inl q)).trans (hst b hb fun q => hn (.inr (.inr q.symm)))
theorem RRaw.setK {W : World} {t base g c n : Nat} {K : List Int} {V : List ByteArray} {vv : Value} (h : RRaw W t base K V (.slice (some ⟨g, 0, none⟩) n c) vv) (i : Nat) (x : Int) :
    RRaw (W.setCell ⟨g, i, none⟩ (.int .i64 x)) t base (K.set i x) V (.slice (some ⟨g, 0, none⟩) n c) vv ∧ Only W (W.setCell ⟨g, i, none⟩ (.int .i64 x)) (TabS t (.slice (some ⟨g, 0, none⟩) n c) vv) := by
  have hg := (h.keys.lt g rfl).1
  have hset : ∀ b, b ≠ g → (W.setCell ⟨g, i, none⟩ (.int .i64 x)).heap[b]? = W.heap[b]? := fun b hb => Below.heap_setCell W ⟨g, i, none⟩ _ b hb
  have hn : n = K.length := by
    obtain ⟨A, c', e⟩ := own_slice h.keys
    injection e
  refine ⟨⟨(hset t (by have := h.out; omega)).trans h.blk, ?_, row_move h.vals fun b e => hset b fun q => h.apart g rfl (q ▸ e), h.out, h.apart⟩, (Only.refl _ _).setCell (p := ⟨g, i, none⟩) (.inl (.inr (.inl rfl))) _⟩
  rw [List.length_set]
  subst hn
  have := own_set h.keys i (.int .i64 x)
  rwa [show (intsV K).set i (.int .i64 x) = intsV (K.set i x) by simp [intsV, List.map_set]] at this
theorem RRaw.setV {W : World} {t base g c n : Nat} {K : List Int} {V : List ByteArray} {vk : Value} (h : RRaw W t base K V vk (.slice (some ⟨g, 0, none⟩) n c)) (i : Nat) (x : ByteArray) :
    RRaw (W.setCell ⟨g, i, none⟩ (.string x)) t base K (V.set i x) vk (.slice (some ⟨g, 0, none⟩) n c) ∧ Only W (W.setCell ⟨g, i, none⟩ (.string x)) (TabS t vk (.slice (some ⟨g, 0, none⟩) n c)) := by
  have hg := (h.vals.lt g rfl).1
  have hset : ∀ b, b ≠ g → (W.setCell ⟨g, i, none⟩ (.string x)).heap[b]? = W.heap[b]? := fun b hb => Below.heap_setCell W ⟨g, i, none⟩ _ b hb
  have hn : n = V.length := by
    obtain ⟨A, c', e⟩ := own_slice h.vals
    injection e
  refine ⟨⟨(hset t (by have := h.out; omega)).trans h.blk, row_move h.keys fun b e => hset b fun q => h.apart b e (by rw [q]; rfl), ?_, h.out, h.apart⟩, (Only.refl _ _).setCell (p := ⟨g, i, none⟩) (.inl (.inr (.inr rfl))) _⟩
  rw [List.length_set]
  subst hn
  have := own_set h.vals i (.string x)
  rwa [show (strsV V).set i (.string x) = strsV (V.set i x) by simp [strsV, List.map_set]] at this
def holed {α : Type} (l : List α) (k : Nat) (y : α) : List α := l.take k ++ y :: l.drop k
theorem holed_len {α : Type} {l : List α} {k : Nat} (h : k ≤ l.length) (y : α) : (holed l k y).length = l.length + 1 := by unfold holed; simp; omega
theorem holed_end {α : Type} (l : List α) (y : α) : l ++ [y] = holed l l.length y := by simp [holed]
theorem holed_set {α : Type} {l : List α} {k : Nat} (h : k ≤ l.length) (y z : α) : (holed l k y).set k z = holed l k z := by
  unfold holed
  rw [List.set_append_right _ _ (by simp; omega)]
  simp [Nat.min_eq_left h]
theorem holed_at {α : Type} {l : List α} {k : Nat} (h : k + 1 ≤ l.length) (y d : α) : (holed l (k + 1) y).getD k d = l.getD k d := by
  unfold holed
  simp only [List.getD_eq_getElem?_getD]
  rw [List.getElem?_append_left (by simp; omega), List.getElem?_take, if_pos (by omega)]
theorem holed_down {α : Type} {l : List α} {k : Nat} (h : k + 1 ≤ l.length) (d : α) : holed l (k + 1) (l.getD k d) = holed l k (l.getD k d) := by
  unfold holed
  rw [List.take_add_one, List.getD_eq_getElem?_getD, List.getElem?_eq_getElem (show k < l.length by omega)]
  simp only [Option.toList_some, Option.getD_some, List.append_assoc, List.cons_append, List.nil_append]
  rw [List.drop_eq_getElem_cons (show k < l.length by omega)]
set_option maxRecDepth 100000 in
set_option maxHeartbeats 2000000 in
theorem rpub_new {w : World} {t base : Nat} {K : List Int} {V : List ByteArray} {vk vv : Value} (h : RTab w t base K V vk vv) (hr : Rising K) (hsm : K.length < 1099511627776) (hbs : base ≤ w.heap.size) (key : Int) (val : ByteArray) (hno : ∀ lo, AtPlace K key lo → foundB K key lo = false) :
    Calls Try.prog 52 #[.pointer (some ⟨t, 0, none⟩), .int .i64 key, .string val] w fun e w' => ∃ lo vk' vv', AtPlace K key lo ∧ e = .returned (.bool true) ∧ RRaw w' t base (holed K lo key) (holed V lo val) vk' vv' ∧ Only w w' (TabS t vk vv) ∧ ∀ b, TabS t vk' vv' b → TabS t vk vv b ∨ w.heap.size ≤ b := by
  obtain ⟨A, c, rfl⟩ := own_slice h.keys
  obtain ⟨B, d, rfl⟩ := own_slice h.vals
  have hat := rat_calls h hr key
  have hlen := h.len
  have H := Lib.hid (And.intro h (And.intro hr (And.intro hno (And.intro hbs (And.intro hlen hsm)))))
  have hn : K.length ≤ 9223372036854775805 := by omega
  clear h hr hno hlen hsm
  have hu := Try.underlying76
  go_enter Try.func52, Try.ntmps52
  go_wp2_with fail
  refine hat.mono ?_
  rintro e w1 ⟨lo, hlo, rfl, n, rfl⟩
  rw [H.out.2.2.1 lo hlo]
  have HLO := Lib.hid hlo
  clear hat hlo
  obtain ⟨i0, hi0, hz0, hz1, hz2⟩ := info_parts rinfoInt
  obtain ⟨j0, hj0, hy0, hy1, hy2⟩ := info_parts rinfoStr
  have HI := Lib.hid (And.intro hi0 (And.intro hz0 (And.intro hz1 (And.intro hz2 (And.intro hj0 (And.intro hy0 (And.intro hy1 hy2)))))))
  clear hi0 hz0 hz1 hz2 hj0 hy0 hy1 hy2
  go_upto_region 4 with (fail)
  refine rnameW ?_
  intro V1 hV1
  have hraw : RRaw V1 t base K V (.slice A K.length c) (.slice B V.length d) := by rw [hV1]; exact ⟨H.out.1.blk, H.out.1.keys, H.out.1.vals, H.out.1.out, H.out.1.apart⟩
  have hsz : w.heap.size = V1.heap.size := by rw [hV1]; rfl
  have ho1 : Only w V1 (TabS t (.slice A K.length c) (.slice B V.length d)) := by rw [hV1]; exact (Only.refl _ _).drewN _
  have c0 := blk_cell hraw.blk (i := 0) rfl
  have lt := blk_lt hraw.blk
  have HV := Lib.hid (And.intro hraw (And.intro hsz ho1))
  clear hV1 hraw hsz ho1
  go_upto_region 5 with (at_builtin; go_must (refine wpl_app _ rfl (.tmp 21) (.tmp 22) 25 rfl base 3 i0 (.int .i64 0) 1 8 Try.underlying25 HI.out.1 HI.out.2.1 HI.out.2.2.1 HI.out.2.2.2.1 rfl (by decide) (.slice A K.length c) K.length (intsV K) rfl (HV.out.1.keys.alloc _) V1.heap.size 1 1 [.int .i64 0] 3 (0, 0) rfl (new_blk _) rfl (by simp [Value.oneCell']) (by unfold maxLen; omega) (by have := H.out.2.2.2.2.2; omega) (by have := HV.out.2.1; simp; omega) ?_); intro A1 C1 w9 ho9 hg9 hat9; have q1 := blk_grown (blk_alloc HV.out.1.blk _) hg9 (fun e => by have := (HV.out.1.keys.lt t e.symm).1; have := HV.out.1.out; omega); have q2 := blk_cell q1 (i := 0) rfl; have q3 := blk_frozen q1; have HA1 : Hid (∀ b, (Value.slice A1 (K.length + 1) C1).ownBlock = some b → (Value.slice A K.length c).ownBlock = some b ∨ V1.heap.size ≤ b) := Lib.hid (fun b q => by rw [own_map] at q; rcases hat9 with k | k; exact .inl (k ▸ q); exact .inr (by rw [q] at k; cases k; simp)); have H9 := Lib.hid (HV.out.1.growK ho9 hg9 hat9); clear ho9 hg9 hat9 q1)
  refine rnameW ?_
  intro V2 hV2
  have hraw : RRaw V2 t base (K ++ [0]) V (.slice A1 (K.length + 1) C1) (.slice B V.length d) := by rw [hV2]; exact H9.out.1
  have ho2 : Only V1 V2 (TabS t (.slice A K.length c) (.slice B V.length d)) := by rw [hV2]; exact H9.out.2
  have c0 := blk_cell hraw.blk (i := 1) rfl
  have lt := blk_lt hraw.blk
  have HV2 := Lib.hid (And.intro hraw ho2)
  clear hV2 hraw ho2 q2 q3
  go_upto_region 6 with (at_builtin; go_must (refine wpl_app _ rfl (.tmp 30) (.tmp 31) 41 rfl base 9 j0 (.string ⟨#[]⟩) 1 16 Try.underlying41 HI.out.2.2.2.2.1 HI.out.2.2.2.2.2.1 HI.out.2.2.2.2.2.2.1 HI.out.2.2.2.2.2.2.2 rfl (by decide) (.slice B V.length d) V.length (strsV V) rfl (HV2.out.1.vals.alloc _) V2.heap.size 1 1 [.string ⟨#[]⟩] 9 (0, 0) rfl (new_blk _) rfl (by simp [Value.oneCell']) (by have := H.out.2.2.2.2.1; unfold maxLen; omega) (by have := H.out.2.2.2.2.1; have := H.out.2.2.2.2.2; omega) (by have := HV.out.2.1; have := HV2.out.2.size; simp; omega) ?_); intro A2 C2 w9 ho9 hg9 hat9; have q1 := blk_grown (blk_alloc HV2.out.1.blk _) hg9 (fun e => by have := (HV2.out.1.vals.lt t e.symm).1; have := HV2.out.1.out; omega); have q2 := blk_cell q1 (i := 1) rfl; have q3 := blk_frozen q1; have HA2 : Hid (∀ b, (Value.slice A2 (V.length + 1) C2).ownBlock = some b → (Value.slice B V.length d).ownBlock = some b ∨ V2.heap.size ≤ b) := Lib.hid (fun b q => by rw [own_map] at q; rcases hat9 with k | k; exact .inl (k ▸ q); exact .inr (by rw [q] at k; cases k; simp)); have H10 := Lib.hid (HV2.out.1.growV ho9 hg9 hat9); clear ho9 hg9 hat9 q1)
  refine rnameW ?_
  intro V3 hV3
  have hraw : RRaw V3 t base (holed K K.length 0) (holed V K.length ⟨#[]⟩) (.slice A1 (K.length + 1) C1) (.slice A2 (K.length + 1) C2) := by
    rw [hV3, ← holed_end]
    have := H10.out.1
    rw [← H.out.2.2.2.2.1] at this ⊢
    rw [show holed V K.length (⟨#[]⟩ : ByteArray) = V ++ [⟨#[]⟩] by rw [H.out.2.2.2.2.1]; exact (holed_end _ _).symm]
    exact this
  have ho3 : Only w V3 (TabS t (.slice A K.length c) (.slice B V.length d)) := by
    rw [hV3]
    exact (HV.out.2.2.trans' HV2.out.2).trans H10.out.2 fun b q => by
      rcases q with q | q | q
      · exact .inl (.inl q)
      · rcases HA1.out b q with k | k
        · exact .inl (.inr (.inl k))
        · exact .inr (by have := HV.out.2.1; omega)
      · exact .inl (.inr (.inr q))
  have c0 := blk_cell hraw.blk (i := 0) rfl
  have lt := blk_lt hraw.blk
  have HV3 := Lib.hid (And.intro hraw ho3)
  clear hV3 hraw ho3 q2 q3
  have hll := H.out.2.2.2.2.1
  have HLL := Lib.hid hll
  have hlk : lo ≤ K.length := HLO.out.le
  clear hll
  go_wp2_with fail
  clear c0 lt
  go_loopw [9] (fun s9 wr => ∃ (k : Nat) (y : Int) (z : ByteArray), lo ≤ k ∧ k ≤ K.length ∧ s9 = .int .i64 k ∧ RRaw wr t base (holed K k y) (holed V k z) (.slice A1 (K.length + 1) C1) (.slice A2 (K.length + 1) C2) ∧ Only w wr (TabS t (.slice A K.length c) (.slice B V.length d))) (fun s9 _ => (intOf s9).toNat)
  case atStart => exact ⟨K.length, 0, ⟨#[]⟩, hlk, Nat.le_refl _, rfl, HV3.out.1, HV3.out.2⟩
  case round =>
    obtain ⟨k, y, z, hk1, hk2, rfl, hR, hO⟩ := hrel
    have HR := Lib.hid (And.intro hR hO)
    clear hR hO
    have c0 := blk_cell HR.out.1.blk (i := 0) rfl
    have c1 := blk_cell HR.out.1.blk (i := 1) rfl
    have hKl : (holed K k y).length = K.length + 1 := holed_len hk2 y
    have hVl : (holed V k z).length = K.length + 1 := by rw [holed_len (by rw [← HLL.out]; exact hk2), ← HLL.out]
    have hkeys := HR.out.1.keys
    have hvals := HR.out.1.vals
    rw [hKl] at hkeys
    rw [hVl] at hvals
    obtain ⟨g1, e1, x1, f1, l1⟩ := own_at hkeys (i := k) (intsV_at (by omega))
    obtain ⟨g2, e2, x2, f2, l2⟩ := own_at hvals (i := k) (strsV_at (by omega))
    subst e1
    subst e2
    have hkD : decide ((k : Int) < (K.length : Int) + 1) = true := by simp; omega
    have hkN : decide (k < K.length + 1) = true := by simp; omega
    have hb1 := (hkeys.lt g1 rfl).1
    have hb2 := (hvals.lt g2 rfl).1
    have hbt := HR.out.1.out
    have n1 : t ≠ g1 := by omega
    have n2 : g1 ≠ t := by omega
    have n3 : t ≠ g2 := by omega
    have n4 : g2 ≠ t := by omega
    have n5 : g1 ≠ g2 := fun e => HR.out.1.apart g1 rfl (by rw [e]; rfl)
    have n6 : g2 ≠ g1 := fun e => n5 e.symm
    by_cases hlt : lo < k
    · have hlD : decide ((lo : Int) < (k : Int)) = true := by simp; omega
      obtain ⟨m, rfl⟩ : ∃ m, k = m + 1 := ⟨k - 1, by omega⟩
      obtain ⟨g1', e1, x3, f3, _⟩ := own_at hkeys (i := m) (intsV_at (by omega))
      obtain ⟨g2', e2, x4, f4, _⟩ := own_at hvals (i := m) (strsV_at (by omega))
      cases e1
      cases e2
      rw [holed_at hk2] at x3
      rw [holed_at (by rw [← HLL.out]; exact hk2)] at x4
      have hmD : decide ((m : Int) < (K.length : Int) + 1) = true := by simp; omega
      have HS := Lib.hid (And.intro hKl (And.intro hVl (And.intro hkeys hvals)))
      clear hKl hVl hkeys hvals
      obtain ⟨u, hu⟩ : ∃ u, u = K.getD m 0 := ⟨_, rfl⟩
      obtain ⟨v, hv⟩ : ∃ v, v = V.getD m ⟨#[]⟩ := ⟨_, rfl⟩
      rw [← hu] at x3
      rw [← hv] at x4
      have HU := Lib.hid (And.intro hu hv)
      clear hu hv
      have hmN : decide (m < K.length + 1) = true := by simp; omega
      have hi0 : (0 : Int) ≤ (m : Int) := by omega
      have hi1 : (m : Int) < (K.length : Int) + 1 := by omega
      have hi2 : (0 : Int) ≤ (m : Int) + 1 := by omega
      have hi3 : (m : Int) + 1 < (K.length : Int) + 1 := by omega
      have hsub : IntKind.i64.wrap (m : Int) = (m : Int) := IntWalk.i64_in _ (by omega)
      have hto : ((m : Int) + 1).toNat = m + 1 := by omega
      go_wp2_with fail
      refine wp_region_still_tail 14 (by kernel_rfl) (by kernel_rfl) ?_
      simp only [List.take_succ_cons, List.take_zero, List.drop_succ_cons, List.drop_zero]
      repeat still_step
      refine wpStill_nil ?_
      go_wp2_with fail
      refine rnameW ?_
      intro V4 hV4
      have h4 := HR.out.1.setK (m + 1) u
      rw [holed_set hk2] at h4
      have hr4 : RRaw V4 t base (holed K (m + 1) u) (holed V (m + 1) z) (.slice (some ⟨g1, 0, none⟩) (K.length + 1) C1) (.slice (some ⟨g2, 0, none⟩) (K.length + 1) C2) := by rw [hV4]; exact ⟨h4.1.blk, h4.1.keys, h4.1.vals, h4.1.out, h4.1.apart⟩
      have ho4 : Only w V4 (TabS t (.slice A K.length c) (.slice B V.length d)) := by rw [hV4]; exact (HR.out.2.setCell (p := ⟨g1, m + 1, none⟩) (by rcases HA1.out g1 rfl with q | q; exact .inl (.inr (.inl q)); exact .inr (by have := HV.out.2.1; simp; omega)) _).drew
      have hmv : ∀ (b i : Nat), b ≠ g1 → V4.cell? ⟨b, i, none⟩ = wr.cell? ⟨b, i, none⟩ := fun b i hb => by rw [hV4]; exact World.cell?_of_block (w := wr) (Below.heap_setCell wr ⟨g1, m + 1, none⟩ _ b hb)
      have hmf : ∀ (b i : Nat), b ≠ g1 → V4.frozen? ⟨b, i, none⟩ = wr.frozen? ⟨b, i, none⟩ := fun b i hb => by rw [hV4]; exact World.frozen?_of_block (w := wr) (Below.heap_setCell wr ⟨g1, m + 1, none⟩ _ b hb)
      replace c1 := (hmv t 1 n1).trans c1
      replace x2 := (hmv g2 (m + 1) n6).trans x2
      replace x4 := (hmv g2 m n6).trans x4
      replace f2 := (hmf g2 (m + 1) n6).trans f2
      have H4 := Lib.hid (And.intro hr4 ho4)
      clear hV4 h4 hr4 ho4 hmv hmf c0 x1 x3 f1 f3
      refine wp_region_still_tail 14 (by kernel_rfl) (by kernel_rfl) ?_
      simp only [List.take_succ_cons, List.take_zero, List.drop_succ_cons, List.drop_zero]
      repeat still_step
      refine wpStill_nil ?_
      go_wp2_with fail
      go_roundw
      case rel =>
        have h5 := H4.out.1.setV (m + 1) v
        rw [holed_set (by rw [← HLL.out]; exact hk2)] at h5
        have h6 := h5.1
        rw [show holed K (m + 1) u = holed K m u by rw [HU.out.1]; exact holed_down hk2 _, show holed V (m + 1) v = holed V m v by rw [HU.out.2]; exact holed_down (by rw [← HLL.out]; exact hk2) _] at h6
        refine ⟨m, _, _, by omega, by omega, by go_num, ⟨h6.blk, h6.keys, h6.vals, h6.out, h6.apart⟩, ?_⟩
        exact (H4.out.2.setCell (p := ⟨g2, m + 1, none⟩) (by rcases HA2.out g2 (by rfl) with q | q; exact .inl (.inr (.inr q)); exact .inr (by have := HV.out.2.1; have := HV2.out.2.size; simp; omega)) _).drew
      case measure => simp [intOf]
    · obtain rfl : k = lo := by omega
      have hlD : decide ((k : Int) < (k : Int)) = false := by simp
      clear hKl hVl hkeys hvals
      go_wp2_with fail
      go_ret
      have h1 := HR.out.1.setK k key
      have h2 := h1.1.setV k val
      rw [holed_set hk2] at h2
      rw [holed_set (by rw [← HLL.out]; exact hk2)] at h2
      refine ⟨k, _, _, HLO.out, rfl, h2.1, ?_, fun b q => ?_⟩
      · exact (HR.out.2.setCell (p := ⟨g1, k, none⟩) (by rcases HA1.out g1 rfl with q | q; exact .inl (.inr (.inl q)); exact .inr (by have := HV.out.2.1; simp; omega)) _).setCell (p := ⟨g2, k, none⟩) (by rcases HA2.out g2 (by rfl) with q | q; exact .inl (.inr (.inr q)); exact .inr (by have := HV.out.2.1; have := HV2.out.2.size; simp; omega)) _
      · rcases q with q | q | q
        · exact .inl (.inl q)
        · rcases HA1.out b q with e | e
          · exact .inl (.inr (.inl e))
          · exact .inr (by have := HV.out.2.1; omega)
        · rcases HA2.out b q with e | e
          · exact .inl (.inr (.inr e))
          · exact .inr (by have := HV.out.2.1; have := HV2.out.2.size; omega)
end Go.Proofs.Ytfahoomkpammiaa
namespace Go.Proofs.Ytfahoomkpammiaa
open Go.RowKit Go.MapKept Go.Proofs.YtfahoomkpammiaaW.PrintWords Go.Proofs.YtfahoomkpammiaaW.PrintLast Go.Proofs.YtfahoomkpammiaaW.PrintMore Go.Proofs.Ytfahoomkpammiaa.PHistOrders
theorem copyInts_loop (l : List Int) (hl : l.length ≤ 1099511627777) : ∀ (k i : Nat), i ≤ l.length → l.length < k + i → fugueref00_CopyInts.l0 k l (l.take i) i = some l := by
  intro k
  induction k with
  | zero => intro i h1 h2; omega
  | succ k ih =>
    intro i h1 h2
    unfold fugueref00_CopyInts.l0
    by_cases hi : i < l.length
    · have hw : wrap64 ((i : Int) + 1) = ((i + 1 : Nat) : Int) := by unfold wrap64; omega
      have ht : l.take i ++ [rd l (i : Int)] = l.take (i + 1) := by
        rw [List.take_add_one, List.getElem?_eq_getElem hi]
        show _ ++ [l.getD (i : Int).toNat 0] = _
        rw [Int.toNat_natCast, List.getD_eq_getElem?_getD, List.getElem?_eq_getElem hi]
        rfl
      rw [if_pos (by omega), if_pos (by omega), if_pos (by simp; omega), hw, ht]
      exact ih (i + 1) (by omega) (by omega)
    · obtain rfl : i = l.length := by omega
      rw [if_neg (by omega), List.take_length]
theorem copyInts_some (l : List Int) (hl : l.length ≤ 1099511627777) : fugueref00_CopyInts.f (l.length + 1) l = some l := copyInts_loop l hl (l.length + 1) 0 (Nat.zero_le _) (by omega)
theorem copyStrings_loop (l : List ByteArray) (hl : l.length ≤ 1099511627777) : ∀ (k i : Nat), i ≤ l.length → l.length < k + i → fugueref00_CopyStrings.l0 k l (l.take i) i = some l := by
  intro k
  induction k with
  | zero => intro i h1 h2; omega
  | succ k ih =>
    intro i h1 h2
    unfold fugueref00_CopyStrings.l0
    by_cases hi : i < l.length
    · have hw : wrap64 ((i : Int) + 1) = ((i + 1 : Nat) : Int) := by unfold wrap64; omega
      have ht : l.take i ++ [rdOf ByteArray.empty l (i : Int)] = l.take (i + 1) := by
        rw [List.take_add_one, List.getElem?_eq_getElem hi]
        show _ ++ [l.getD (i : Int).toNat ByteArray.empty] = _
        rw [Int.toNat_natCast, List.getD_eq_getElem?_getD, List.getElem?_eq_getElem hi]
        rfl
      rw [if_pos (by omega), if_pos (by omega), if_pos (by simp; omega), hw, ht]
      exact ih (i + 1) (by omega) (by omega)
    · obtain rfl : i = l.length := by omega
      rw [if_neg (by omega), List.take_length]
theorem copyStrings_some (l : List ByteArray) (hl : l.length ≤ 1099511627777) : fugueref00_CopyStrings.f (l.length + 1) l = some l := copyStrings_loop l hl (l.length + 1) 0 (Nat.zero_le _) (by omega)
theorem own_reads1 {α : Type} {enc : α → Value} {h1 : ∀ x, (enc x).oneCell' = true} {w : World} {base : Nat} {e : TypeId} {A : Option Addr} {c : Nat} {xs : List α} (h : w.ownsRow base e 1 (.slice A xs.length c) xs.length (xs.map enc)) : (Kd.scalar enc h1).C w A xs.length xs ∧ xs.length ≤ c := by
  have hO : OwnRow (fun x cs => cs = [enc x]) e 1 w base (.slice A xs.length c) xs := ⟨_, h, Kd.reps_scalar xs⟩
  obtain ⟨A', c', he, hc, hR⟩ := hO.reads
  injection he with e1 _ e2
  subst e1
  subst e2
  exact ⟨hR, hc⟩
theorem RTab.drew {W : World} {t base : Nat} {K : List Int} {V : List ByteArray} {vk vv : Value} (h : RTab W t base K V vk vv) (n : Nat) : RTab (W.drewN n) t base K V vk vv := ⟨h.blk, h.keys, h.vals, h.out, h.apart, h.len, h.small⟩
theorem RTab.below {W W1 : World} {t base : Nat} {K : List Int} {V : List ByteArray} {vk vv : Value} (h : RTab W t base K V vk vv) (hb : Below W.heap.size W W1) : RTab W1 t base K V vk vv :=
  ⟨blk_below h.blk hb, row_move h.keys fun g e => hb.block g (own_lt h.keys e), row_move h.vals fun g e => hb.block g (own_lt h.vals e), h.out, h.apart, h.len, h.small⟩
set_option maxRecDepth 100000 in
set_option maxHeartbeats 1000000 in
theorem rpub_old {w : World} {t base : Nat} {K : List Int} {V : List ByteArray} {vk vv : Value} (h : RTab w t base K V vk vv) (hr : Rising K) (key : Int) (val : ByteArray) (hno : ∀ lo, AtPlace K key lo → foundB K key lo = true) :
    Calls Try.prog 52 #[.pointer (some ⟨t, 0, none⟩), .int .i64 key, .string val] w fun e w' => e = .returned (.bool false) ∧ ∃ n, w' = w.drewN n := by
  have hat := rat_calls h hr key
  have H := Lib.hid (And.intro h hno)
  clear h hr hno
  go_enter Try.func52, Try.ntmps52
  go_wp2_with fail
  refine hat.mono ?_
  rintro e w1 ⟨lo, hlo, rfl, n, rfl⟩
  rw [H.out.2 lo hlo]
  clear hat hlo
  go_wp2_with fail
  go_ret
  exact ⟨rfl, _, rfl⟩
set_option maxRecDepth 100000 in
set_option maxHeartbeats 1000000 in
theorem rlook_none {w : World} {t base : Nat} {K : List Int} {V : List ByteArray} {vk vv : Value} (h : RTab w t base K V vk vv) (hr : Rising K) (key : Int) (hno : ∀ lo, AtPlace K key lo → foundB K key lo = false) :
    Calls Try.prog 53 #[.pointer (some ⟨t, 0, none⟩), .int .i64 key] w fun e w' => e = .returned (.tuple #[.string ⟨#[]⟩, .bool false]) ∧ ∃ n, w' = w.drewN n := by
  have hat := rat_calls h hr key
  have H := Lib.hid (And.intro h hno)
  clear h hr hno
  go_enter Try.func53, Try.ntmps53
  go_wp2_with fail
  refine hat.mono ?_
  rintro e w1 ⟨lo, hlo, rfl, n, rfl⟩
  rw [H.out.2 lo hlo]
  clear hat hlo
  go_wp2_with fail
  go_ret2
  exact ⟨rfl, _, rfl⟩
set_option maxRecDepth 100000 in
set_option maxHeartbeats 1000000 in
theorem rlook_some {w : World} {t base : Nat} {K : List Int} {V : List ByteArray} {vk vv : Value} (h : RTab w t base K V vk vv) (hr : Rising K) (key : Int) (hno : ∀ lo, AtPlace K key lo → foundB K key lo = true) :
    Calls Try.prog 53 #[.pointer (some ⟨t, 0, none⟩), .int .i64 key] w fun e w' => ∃ lo, AtPlace K key lo ∧ e = .returned (.tuple #[.string (V.getD lo ⟨#[]⟩), .bool true]) ∧ ∃ n, w' = w.drewN n := by
  have hat := rat_calls h hr key
  obtain ⟨A, c, rfl⟩ := own_slice h.keys
  obtain ⟨B, d, rfl⟩ := own_slice h.vals
  have c1 := blk_cell h.blk (i := 1) rfl
  have hlen := h.len
  have hsm := h.small
  have H := Lib.hid (And.intro h (And.intro hno (And.intro hlen hsm)))
  clear h hr hno hlen hsm
  have hu := Try.underlying76
  go_enter Try.func53, Try.ntmps53
  go_wp2_with fail
  refine hat.mono ?_
  rintro e w1 ⟨lo, hlo, rfl, n, rfl⟩
  have hf := H.out.2.1 lo hlo
  have hl : lo < K.length := by
    unfold foundB at hf
    rw [Bool.and_eq_true] at hf
    exact of_decide_eq_true hf.1
  rw [hf]
  obtain ⟨g, e1, x1, _, _⟩ := own_at H.out.1.vals (i := lo) (strsV_at (by rw [← H.out.2.2.1]; exact hl))
  subst e1
  obtain ⟨y, hy⟩ : ∃ y, y = V.getD lo ⟨#[]⟩ := ⟨_, rfl⟩
  rw [← hy] at x1
  have HY := Lib.hid hy
  clear hy
  have hlV : lo < V.length := by rw [← H.out.2.2.1]; exact hl
  have hlD : decide ((lo : Int) < (V.length : Int)) = true := by simp; omega
  have HLO := Lib.hid hlo
  clear hat hlo hf
  go_wp2_with fail
  go_ret2
  exact ⟨lo, HLO.out, by rw [← HY.out]; rfl, _, rfl⟩
structure Copies (w w' : World) (K : List Int) (V : List ByteArray) (v2 v3 : Value) : Prop where
  keys : w'.ownsRow w.heap.size 3 1 v2 K.length (intsV K)
  vals : w'.ownsRow w.heap.size 9 1 v3 V.length (strsV V)
  below : Below w.heap.size w w'
theorem own_lower {w : World} {base base' n : Nat} {e : TypeId} {v : Value} {xs : List Value} (h : w.ownsRow base e 1 v n xs) (hb : base' ≤ base) : w.ownsRow base' e 1 v n xs := by
  refine ⟨h.1, ?_⟩
  rcases h.2 with hh | ⟨g, cap, cur, rfl, h1, rest⟩
  · exact .inl hh
  · exact .inr ⟨g, cap, cur, rfl, by omega, rest⟩
set_option maxRecDepth 100000 in
set_option maxHeartbeats 2000000 in
theorem rsnap {w : World} {t base : Nat} {K : List Int} {V : List ByteArray} {vk vv : Value} (h : RTab w t base K V vk vv) :
    Calls Try.prog 54 #[.pointer (some ⟨t, 0, none⟩)] w fun e w' => ∃ v2 v3, e = .returned (.tuple #[v2, v3]) ∧ Copies w w' K V v2 v3 := by
  obtain ⟨A, c, rfl⟩ := own_slice h.keys
  obtain ⟨B, d, rfl⟩ := own_slice h.vals
  obtain ⟨k1, k2⟩ := own_reads1 (h1 := fun _ => rfl) h.keys
  obtain ⟨k3, k4⟩ := own_reads1 (h1 := fun _ => rfl) h.vals
  have c0 := blk_cell h.blk (i := 0) rfl
  have c1 := blk_cell h.blk (i := 1) rfl
  have lt := blk_lt h.blk
  have hsm := h.small
  have hlen := h.len
  have hs1 := copyInts_some K (by omega)
  have hs2 := copyStrings_some V (by omega)
  have hi := fun (W : World) (hb : Below w.heap.size w W) => fugueref00_CopyInts.calls (K.length + 1) A c K K W (Kd.C_below k1 hb) k2 hs1
  have hv := fun (W : World) (hb : Below w.heap.size w W) => fugueref00_CopyStrings.calls (V.length + 1) B d V V W (Kd.C_below k3 hb) k4 hs2
  have H := Lib.hid (And.intro h (And.intro hi hv))
  clear h k1 k2 k3 k4 hsm hlen hs1 hs2 hi hv
  have hu := Try.underlying76
  go_enter Try.func54, Try.ntmps54
  go_wp2_with fail
  refine wp_region_held (S := fun w' => w'.cell? ⟨t, 0, none⟩ = some (.slice A K.length c) ∧ w'.cell? ⟨t, 1, none⟩ = some (.slice B V.length d) ∧ Below w.heap.size w w') (by kernel_rfl) ?_
  refine wpAnyH_take (i := 0) (v := .pointer (some ⟨t, 0, none⟩)) rfl (by kernel_rfl) (by kernel_rfl) (by kernel_rfl) (fun _ _ _ h => h) (Or.inl ⟨by rfl, fun w' hw' => by obtain ⟨s1, s2, _⟩ := hw'; go_simp⟩) ⟨c0, c1, below_drew1 (Below.refl _ _)⟩ ?_
  refine wpAnyH_take (i := 1) (v := .pointer (some ⟨t, 0, none⟩)) rfl (by kernel_rfl) (by kernel_rfl) (by kernel_rfl) (fun _ _ _ h => h) (Or.inl ⟨by rfl, fun w' hw' => by obtain ⟨s1, s2, _⟩ := hw'; go_simp⟩) ⟨c0, c1, below_drew1 (Below.refl _ _)⟩ ?_
  refine wpAnyH_take (i := 2) (v := .pointer (some ⟨t, 0, none⟩)) rfl (by kernel_rfl) (by kernel_rfl) (by kernel_rfl) (fun _ _ _ h => h) (Or.inl ⟨by rfl, fun w' hw' => by obtain ⟨s1, s2, _⟩ := hw'; go_simp⟩) ⟨c0, c1, below_drew1 (Below.refl _ _)⟩ ?_
  refine wpAnyH_take (i := 3) (v := .slice A K.length c) rfl (by kernel_rfl) (by kernel_rfl) (by kernel_rfl) (fun _ _ _ h => h) (Or.inl ⟨by rfl, fun w' hw' => by obtain ⟨s1, s2, _⟩ := hw'; go_simp⟩) ⟨c0, c1, below_drew1 (Below.refl _ _)⟩ ?_
  refine wpAnyH_take (i := 5) (v := .pointer (some ⟨t, 0, none⟩)) rfl (by kernel_rfl) (by kernel_rfl) (by kernel_rfl) (fun _ _ _ h => h) (Or.inl ⟨by rfl, fun w' hw' => by obtain ⟨s1, s2, _⟩ := hw'; go_simp⟩) ⟨c0, c1, below_drew1 (Below.refl _ _)⟩ ?_
  refine wpAnyH_take (i := 6) (v := .pointer (some ⟨t, 0, none⟩)) rfl (by kernel_rfl) (by kernel_rfl) (by kernel_rfl) (fun _ _ _ h => h) (Or.inl ⟨by rfl, fun w' hw' => by obtain ⟨s1, s2, _⟩ := hw'; go_simp⟩) ⟨c0, c1, below_drew1 (Below.refl _ _)⟩ ?_
  refine wpAnyH_take (i := 7) (v := .pointer (some ⟨t, 1, none⟩)) rfl (by kernel_rfl) (by kernel_rfl) (by kernel_rfl) (fun _ _ _ h => h) (Or.inl ⟨by rfl, fun w' hw' => by obtain ⟨s1, s2, _⟩ := hw'; go_simp⟩) ⟨c0, c1, below_drew1 (Below.refl _ _)⟩ ?_
  refine wpAnyH_take (i := 8) (v := .slice B V.length d) rfl (by kernel_rfl) (by kernel_rfl) (by kernel_rfl) (fun _ _ _ h => h) (Or.inl ⟨by rfl, fun w' hw' => by obtain ⟨s1, s2, _⟩ := hw'; go_simp⟩) ⟨c0, c1, below_drew1 (Below.refl _ _)⟩ ?_
  refine wpAnyH_step (i := 4) (by kernel_rfl) rfl (by rfl) ?_
  intro Kq hK
  go_simp
  refine (H.out.2.1 _ (below_drew1 (Below.refl _ _))).mono ?_
  rintro e w5 ⟨v2, rfl, hr5, hb5⟩
  have hb6 : Below w.heap.size w w5 := below_step (below_drew1 (Below.refl _ _)) hb5
  have c0' := (hb6.cell (World.block_lt_of_cell? w _ c0)).trans c0
  have c1' := (hb6.cell (World.block_lt_of_cell? w _ c1)).trans c1
  have H5 := Lib.hid (And.intro hr5 hb6)
  clear hr5 hb5
  refine hK _ _ ⟨c0', c1', hb6⟩ ?_
  clear hK Kq
  refine wpAnyH_step (i := 9) (by kernel_rfl) rfl (by rfl) ?_
  intro Kq hK
  go_simp
  refine (H.out.2.2 _ H5.out.2).mono ?_
  rintro e w7 ⟨v3, rfl, hr7, hb7⟩
  have hb8 : Below w.heap.size w w7 := below_step H5.out.2 hb7
  have c2' := (hb8.cell (World.block_lt_of_cell? w _ c0)).trans c0
  have c3' := (hb8.cell (World.block_lt_of_cell? w _ c1)).trans c1
  have H7 := Lib.hid (And.intro hr7 (And.intro hb8 hb7))
  clear hr7 hb7
  refine hK _ _ ⟨c2', c3', hb8⟩ ?_
  clear hK Kq
  refine wpAnyH_take (i := 10) (v := v2) rfl (by kernel_rfl) (by kernel_rfl) (by kernel_rfl) (fun _ _ _ h => h) (Or.inl ⟨by rfl, fun w' hw' => by go_simp⟩) ⟨c2', c3', hb8⟩ ?_
  refine wpAnyH_take (i := 11) (v := v3) rfl (by kernel_rfl) (by kernel_rfl) (by kernel_rfl) (fun _ _ _ h => h) (Or.inl ⟨by rfl, fun w' hw' => by go_simp⟩) ⟨c2', c3', hb8⟩ ?_
  refine wpAnyH_done (by kernel_rfl) ?_ _
  go_wp2_with fail
  go_ret2
  have k2 : w5.ownsRow w.heap.size 3 1 v2 K.length (intsV K) := Kd.own_of_R H5.out.1
  have k3 : w7.ownsRow w5.heap.size 9 1 v3 V.length (strsV V) := Kd.own_of_R H7.out.1
  exact ⟨v2, v3, rfl, row_move k2 fun g e => H7.out.2.2.block g (own_lt k2 e), own_lower k3 H5.out.2.size, H7.out.2.1⟩
theorem place_one {K : List Int} {key : Int} {a b : Nat} (h : AtPlace K key a) (k : AtPlace K key b) : a = b := by
  rcases Nat.lt_trichotomy a b with q | q | q
  · have h1 := k.low a q
    have h2 := h.high a (Nat.le_refl _) (by have := k.le; omega)
    omega
  · exact q
  · have h1 := h.low b q
    have h2 := k.high b (Nat.le_refl _) (by have := h.le; omega)
    omega
theorem place_ex {K : List Int} (hr : Rising K) (key : Int) : ∃ lo, AtPlace K key lo := by
  have : ∀ n, n ≤ K.length → (∀ j, n ≤ j → j < K.length → key ≤ K.getD j 0) → ∃ lo, AtPlace K key lo := by
    intro n
    induction n with
    | zero => intro h1 h2; exact ⟨0, h1, fun j q => by omega, h2⟩
    | succ n ih =>
      intro h1 h2
      by_cases q : K.getD n 0 < key
      · refine ⟨n + 1, h1, fun j hj => ?_, h2⟩
        rcases Nat.lt_or_ge j n with k | k
        · have := hr j n k (by omega); omega
        · obtain rfl : j = n := by omega
          exact q
      · exact ih (by omega) fun j a b => by
          rcases Nat.eq_or_lt_of_le a with k | k
          · subst k; omega
          · exact h2 j k b
  exact this K.length (Nat.le_refl _) fun j a b => by omega
theorem rising_holed {K : List Int} {key : Int} {lo : Nat} (hr : Rising K) (h : AtPlace K key lo) (hf : foundB K key lo = false) : Rising (holed K lo key) := by
  have hat : ∀ i, i ≤ K.length → (holed K lo key).getD i 0 = if i < lo then K.getD i 0 else if i = lo then key else K.getD (i - 1) 0 := fun i hi => by
    unfold holed
    simp only [List.getD_eq_getElem?_getD]
    have hle := h.le
    by_cases q : i < lo
    · rw [if_pos q, List.getElem?_append_left (by simp; omega), List.getElem?_take, if_pos q]
    · rw [if_neg q, List.getElem?_append_right (by simp; omega), List.length_take, Nat.min_eq_left hle]
      by_cases q2 : i = lo
      · rw [if_pos q2, q2, Nat.sub_self]
        rfl
      · rw [if_neg q2, show i - lo = (i - 1 - lo) + 1 by omega, List.getElem?_cons_succ, List.getElem?_drop, show lo + (i - 1 - lo) = i - 1 by omega]
  have hhi : ∀ j, lo ≤ j → j < K.length → key < K.getD j 0 := fun j a b => by
    have h1 := h.high j a b
    rcases Nat.eq_or_lt_of_le a with q | q
    · subst q
      unfold foundB at hf
      rw [decide_eq_true b, Bool.true_and] at hf
      have := of_decide_eq_false hf
      omega
    · have h2 := h.high lo (Nat.le_refl _) (by omega)
      have h3 := hr lo j q b
      omega
  intro i j hij hj
  have hle := h.le
  rw [holed_len hle] at hj
  rw [hat i (by omega), hat j (by omega)]
  by_cases a : i < lo
  · rw [if_pos a]
    have hi := h.low i a
    by_cases b : j < lo
    · rw [if_pos b]; exact hr i j hij (by omega)
    · rw [if_neg b]
      by_cases c : j = lo
      · rw [if_pos c]; exact hi
      · rw [if_neg c]
        have := hhi (j - 1) (by omega) (by omega)
        omega
  · rw [if_neg a, if_neg (show ¬ j < lo by omega), if_neg (show ¬ j = lo by omega)]
    by_cases b : i = lo
    · rw [if_pos b]; exact hhi (j - 1) (by omega) (by omega)
    · rw [if_neg b]; exact hr (i - 1) (j - 1) (by omega) (by omega)
def DoIs (K : List Int) (V : List ByteArray) (o : S40) (K' : List Int) (V' : List ByteArray) (r : S43) : Prop :=
  if o.f0 = 1 then ∃ lo, AtPlace K o.f1 lo ∧ if foundB K o.f1 lo = true then K' = K ∧ V' = V ∧ r = z43 else K' = holed K lo o.f1 ∧ V' = holed V lo o.f2 ∧ r = ⟨true, ⟨#[]⟩, [], []⟩
  else if o.f0 = 2 then ∃ lo, AtPlace K o.f1 lo ∧ K' = K ∧ V' = V ∧ r = if foundB K o.f1 lo = true then ⟨true, V.getD lo ⟨#[]⟩, [], []⟩ else z43
  else K' = K ∧ V' = V ∧ r = ⟨true, ⟨#[]⟩, K, V⟩
def DoneBy (w : World) (t base : Nat) (K : List Int) (V : List ByteArray) (vk vv : Value) (o : S40) (e : Ending) (w' : World) : Prop :=
  ∃ K' V' vk' vv' r A2 c2 A3 c3, DoIs K V o K' V' r ∧ e = .returned (.agg #[.bool r.f0, .string r.f1, .slice A2 r.f2.length c2, .slice A3 r.f3.length c3]) ∧ r.f2.length ≤ c2 ∧ (Kd.int .i64).C w' A2 r.f2.length r.f2 ∧
    r.f3.length ≤ c3 ∧ Kd.string.C w' A3 r.f3.length r.f3 ∧ RTab w' t base K' V' vk' vv' ∧ Rising K' ∧ Only w w' (TabS t vk vv) ∧ ∀ b, TabS t vk' vv' b → TabS t vk vv b ∨ w.heap.size ≤ b
theorem set4 {w : World} {q : Nat} {x y z u : Value} {t : TypeId} (hb : w.heap[q]? = some (.cells #[x, y, z, u] t (0, 0))) (a b c d : Value) :
    ((((w.setCell ⟨q, 0, none⟩ a).setCell ⟨q, 1, none⟩ b).setCell ⟨q, 2, none⟩ c).setCell ⟨q, 3, none⟩ d).heap[q]? = some (.cells #[a, b, c, d] t (0, 0)) := by
  have h1 := blk_set hb 0 a
  have h2 := blk_set h1 1 b
  have h3 := blk_set h2 2 c
  exact blk_set h3 3 d
theorem RTab.only {W W1 : World} {t base : Nat} {K : List Int} {V : List ByteArray} {vk vv : Value} (h : RTab W t base K V vk vv) {S : Nat → Prop} (ho : Only W W1 S) (hs : ∀ b, S b → ¬ TabS t vk vv b) : RTab W1 t base K V vk vv :=
  ⟨(ho.block t (blk_lt h.blk) fun q => hs t q (.inl rfl)).trans h.blk, row_move h.keys fun g e => ho.block g (own_lt h.keys e) fun q => hs g q (.inr (.inl e)), row_move h.vals fun g e => ho.block g (own_lt h.vals e) fun q => hs g q (.inr (.inr e)), h.out, h.apart, h.len, h.small⟩
theorem RTab.lt {W : World} {t base : Nat} {K : List Int} {V : List ByteArray} {vk vv : Value} (h : RTab W t base K V vk vv) {b : Nat} (hb : TabS t vk vv b) : b < W.heap.size := by
  rcases hb with rfl | hb | hb
  · exact blk_lt h.blk
  · exact own_lt h.keys hb
  · exact own_lt h.vals hb
theorem RRaw.tab {W : World} {t base : Nat} {K : List Int} {V : List ByteArray} {vk vv : Value} (h : RRaw W t base K V vk vv) (hl : K.length = V.length) (hs : K.length ≤ 1099511627776) : RTab W t base K V vk vv := ⟨h.blk, h.keys, h.vals, h.out, h.apart, hl, hs⟩
def stored4 (w : World) (q : Nat) (a b c d : Value) : World := (((w.setCell ⟨q, 0, none⟩ a).setCell ⟨q, 1, none⟩ b).setCell ⟨q, 2, none⟩ c).setCell ⟨q, 3, none⟩ d
theorem stored4_only (w : World) (q : Nat) (a b c d : Value) : Only w (stored4 w q a b c d) (fun x => x = q) :=
  ((((Only.refl w fun x => x = q).setCell (p := ⟨q, 0, none⟩) (.inl rfl) a).setCell (p := ⟨q, 1, none⟩) (.inl rfl) b).setCell (p := ⟨q, 2, none⟩) (.inl rfl) c).setCell (p := ⟨q, 3, none⟩) (.inl rfl) d
theorem done_mk {w w1 : World} {t base q : Nat} {K : List Int} {V : List ByteArray} {vk vv : Value} {o : S40} {K' : List Int} {V' : List ByteArray} {vk' vv' : Value} {r : S43} {A2 : Option Addr} {c2 : Nat} {A3 : Option Addr} {c3 : Nat} (a b c d : Value)
    (hd : DoIs K V o K' V' r) (l2 : r.f2.length ≤ c2) (g2 : (Kd.int .i64).C (stored4 w1 q a b c d) A2 r.f2.length r.f2) (l3 : r.f3.length ≤ c3) (g3 : Kd.string.C (stored4 w1 q a b c d) A3 r.f3.length r.f3)
    (ht : RTab w1 t base K' V' vk' vv') (hr : Rising K') (ho : Only w w1 (TabS t vk vv)) (hq : w.heap.size ≤ q) (hqt : ¬ TabS t vk' vv' q) (hnw : ∀ b, TabS t vk' vv' b → TabS t vk vv b ∨ w.heap.size ≤ b) :
    DoneBy w t base K V vk vv o (.returned (.agg #[.bool r.f0, .string r.f1, .slice A2 r.f2.length c2, .slice A3 r.f3.length c3])) (stored4 w1 q a b c d) :=
  ⟨K', V', vk', vv', r, A2, c2, A3, c3, hd, rfl, l2, g2, l3, g3, ht.only (stored4_only w1 q a b c d) (fun b e => by subst e; exact hqt), hr, ho.trans (stored4_only w1 q a b c d) fun b e => .inr (by subst e; exact hq), hnw⟩
def PubIs (K : List Int) (V : List ByteArray) (key : Int) (val : ByteArray) (lo : Nat) (K' : List Int) (V' : List ByteArray) : Prop :=
  AtPlace K key lo ∧ if foundB K key lo = true then K' = K ∧ V' = V else K' = holed K lo key ∧ V' = holed V lo val
theorem rpub_any {w : World} {t base : Nat} {K : List Int} {V : List ByteArray} {vk vv : Value} (h : RTab w t base K V vk vv) (hr : Rising K) (hsm : K.length < 1099511627776) (hbs : base ≤ w.heap.size) (key : Int) (val : ByteArray) :
    Calls Try.prog 52 #[.pointer (some ⟨t, 0, none⟩), .int .i64 key, .string val] w fun e w' => ∃ K' V' vk' vv' lo, PubIs K V key val lo K' V' ∧ e = .returned (.bool (!foundB K key lo)) ∧ RTab w' t base K' V' vk' vv' ∧ Rising K' ∧ Only w w' (TabS t vk vv) ∧
      ∀ b, TabS t vk' vv' b → TabS t vk vv b ∨ w.heap.size ≤ b := by
  obtain ⟨lo, hlo⟩ := place_ex hr key
  have hno : ∀ l, AtPlace K key l → foundB K key l = foundB K key lo := fun l hl => by rw [place_one hl hlo]
  cases hf : foundB K key lo with
  | true =>
    refine (rpub_old h hr key val fun l hl => (hno l hl).trans hf).mono fun e w' ⟨he, n, hw⟩ => ?_
    subst hw
    exact ⟨K, V, vk, vv, lo, ⟨hlo, by rw [if_pos hf]; exact ⟨rfl, rfl⟩⟩, by rw [he, hf]; rfl, h.drew n, hr, (Only.refl _ _).drewN n, fun b q => .inl q⟩
  | false =>
    refine (rpub_new h hr hsm hbs key val fun l hl => (hno l hl).trans hf).mono fun e w' ⟨l, vk', vv', hl, he, hR, ho, hn⟩ => ?_
    obtain rfl := place_one hl hlo
    have hle := hl.le
    exact ⟨_, _, vk', vv', l, ⟨hl, by rw [if_neg (by rw [hf]; simp)]; exact ⟨rfl, rfl⟩⟩, by rw [he, hf]; rfl, hR.tab (by rw [holed_len hle, holed_len (by rw [← h.len]; exact hle), h.len]) (by rw [holed_len hle]; omega), rising_holed hr hl hf, ho, hn⟩
set_option maxRecDepth 100000 in
set_option maxHeartbeats 2000000 in
theorem rdo_pub {w : World} {t base : Nat} {K : List Int} {V : List ByteArray} {vk vv : Value} (h : RTab w t base K V vk vv) (hr : Rising K) (hsm : K.length < 1099511627776) (hbs : base ≤ w.heap.size) (o : S40) (ho : o.f0 = 1) :
    Calls Try.prog 37 #[.pointer (some ⟨t, 0, none⟩), .agg #[.int .i64 o.f0, .int .i64 o.f1, .string o.f2]] w fun e w' => DoneBy w t base K V vk vv o e w' := by
  have hu := Try.underlying40
  have hu2 := Try.underlying43
  have h2 : RTab ((w.alloc (.cells #[.int .i64 1, .int .i64 o.f1, .string o.f2] 40)).alloc (.cells #[.bool false, .string ⟨#[]⟩, .slice none 0 0, .slice none 0 0] 43)) t base K V vk vv := (h.below (below_alloc (Below.refl _ _) _)).below (below_alloc (Below.refl _ _) _)
  have hbl : Below w.heap.size w ((w.alloc (.cells #[.int .i64 1, .int .i64 o.f1, .string o.f2] 40)).alloc (.cells #[.bool false, .string ⟨#[]⟩, .slice none 0 0, .slice none 0 0] 43)) := below_alloc (below_alloc (Below.refl _ _) _) _
  have hq := blk_new (w.alloc (.cells #[.int .i64 1, .int .i64 o.f1, .string o.f2] 40)) (.cells #[.bool false, .string ⟨#[]⟩, .slice none 0 0, .slice none 0 0] 43)
  simp only [World.size_alloc] at hq
  have hc := rpub_any h2 hr hsm (by simp; omega) o.f1 o.f2
  have H := Lib.hid (And.intro h (And.intro hbl (And.intro hq ho)))
  rw [ho]
  clear h hr hbs h2 hbl hq hsm ho
  go_enter Try.func37, Try.ntmps37
  go_wp2_with fail
  refine hc.mono ?_
  rintro e w1 ⟨K', V', vk', vv', lo, hp, rfl, ht, hr', hO, hnew⟩
  have hq1 := hO.blk H.out.2.2.1 (fun q => by have := H.out.1.lt q; omega)
  have y0 := blk_cell hq1 (i := 0) rfl
  have y1 := blk_cell hq1 (i := 1) rfl
  have y2 := blk_cell hq1 (i := 2) rfl
  have y3 := blk_cell hq1 (i := 3) rfl
  have fz := blk_frozen hq1
  have HP := Lib.hid (And.intro hp (And.intro ht (And.intro hr' (And.intro hO (And.intro hnew hq1)))))
  clear hp ht hr' hO hnew hq1 hc
  obtain ⟨b, hb⟩ : ∃ b, b = !foundB K o.f1 lo := ⟨_, rfl⟩
  rw [← hb]
  have HB := Lib.hid hb
  clear hb
  go_wp2_with fail
  have hres := set4 HP.out.2.2.2.2.2 (.bool b) (.string ⟨#[]⟩) (.slice none 0 0) (.slice none 0 0)
  refine bodyPost_ret (results_cell_row rfl _ _ (w.heap.size + 1) 43 #[.bool b, .string ⟨#[]⟩, .slice none 0 0, .slice none 0 0] (0, 0) _ rfl hres Try.underlying43 rfl (by kernel_rfl)) rfl ?_
  have hfin := done_mk (w := w) (w1 := w1) (t := t) (base := base) (q := w.heap.size + 1) (K := K) (V := V) (vk := vk) (vv := vv) (o := o) (r := ⟨b, ⟨#[]⟩, [], []⟩) (A2 := none) (c2 := 0) (A3 := none) (c3 := 0) (.bool b) (.string ⟨#[]⟩) (.slice none 0 0) (.slice none 0 0)
    (K' := K') (V' := V') (by
      unfold DoIs
      rw [if_pos H.out.2.2.2]
      refine ⟨lo, HP.out.1.1, ?_⟩
      have := HP.out.1.2
      split
      · rename_i hf
        rw [if_pos hf] at this
        exact ⟨this.1, this.2, by rw [HB.out, hf]; rfl⟩
      · rename_i hf
        rw [if_neg hf] at this
        exact ⟨this.1, this.2, by rw [HB.out, Bool.not_eq_true _ |>.mp hf]; rfl⟩)
    (Nat.le_refl _) (Kd.C_nil _ _) (Nat.le_refl _) (Kd.C_nil _ _) HP.out.2.1 HP.out.2.2.1 ((Only.of_below (S := TabS t vk vv) H.out.2.1 fun b h1 h2 => by omega).trans' HP.out.2.2.2.1) (by omega) (fun q => by
      rcases HP.out.2.2.2.2.1 _ q with k | k
      · have := H.out.1.lt k; omega
      · simp at k; omega) (fun q hq => by
      rcases HP.out.2.2.2.2.1 _ hq with k | k
      · exact .inl k
      · simp at k; exact .inr (by omega))
  exact hfin
theorem rlook_any {w : World} {t base : Nat} {K : List Int} {V : List ByteArray} {vk vv : Value} (h : RTab w t base K V vk vv) (hr : Rising K) (key : Int) :
    Calls Try.prog 53 #[.pointer (some ⟨t, 0, none⟩), .int .i64 key] w fun e w' => ∃ (lo : Nat) (v : ByteArray), AtPlace K key lo ∧ v = (if foundB K key lo = true then V.getD lo ⟨#[]⟩ else ⟨#[]⟩) ∧ e = .returned (.tuple #[.string v, .bool (foundB K key lo)]) ∧ ∃ n, w' = w.drewN n := by
  obtain ⟨lo, hlo⟩ := place_ex hr key
  have hno : ∀ l, AtPlace K key l → foundB K key l = foundB K key lo := fun l hl => by rw [place_one hl hlo]
  cases hf : foundB K key lo with
  | true =>
    refine (rlook_some h hr key fun l hl => (hno l hl).trans hf).mono fun e w' ⟨l, hl, he, hw⟩ => ?_
    obtain rfl := place_one hl hlo
    exact ⟨l, _, hl, by rw [if_pos hf], by rw [he, hf], hw⟩
  | false =>
    refine (rlook_none h hr key fun l hl => (hno l hl).trans hf).mono fun e w' ⟨he, hw⟩ => ?_
    exact ⟨lo, _, hlo, by rw [if_neg (by rw [hf]; simp)], by rw [he, hf], hw⟩
theorem DoneBy.of {w w1 : World} {t base q : Nat} {K : List Int} {V : List ByteArray} {vk vv : Value} {o : S40} {r : S43} {A2 : Option Addr} {c2 : Nat} {A3 : Option Addr} {c3 : Nat} (a b c d : Value) (hd : DoIs K V o K V r) (h : RTab w t base K V vk vv) (hr : Rising K) (hb : Below w.heap.size w w1) (hq : w.heap.size ≤ q)
    (l2 : r.f2.length ≤ c2) (g2 : (Kd.int .i64).C (stored4 w1 q a b c d) A2 r.f2.length r.f2) (l3 : r.f3.length ≤ c3) (g3 : Kd.string.C (stored4 w1 q a b c d) A3 r.f3.length r.f3) :
    DoneBy w t base K V vk vv o (.returned (.agg #[.bool r.f0, .string r.f1, .slice A2 r.f2.length c2, .slice A3 r.f3.length c3])) (stored4 w1 q a b c d) :=
  done_mk a b c d hd l2 g2 l3 g3 (h.below hb) hr (Only.of_below (S := TabS t vk vv) hb fun b h1 h2 => by omega) hq (fun k => by have := h.lt k; omega) fun b q => .inl q
set_option maxRecDepth 100000 in
set_option maxHeartbeats 2000000 in
theorem rdo_look {w : World} {t base : Nat} {K : List Int} {V : List ByteArray} {vk vv : Value} (h : RTab w t base K V vk vv) (hr : Rising K) (o : S40) (ho : o.f0 = 2) :
    Calls Try.prog 37 #[.pointer (some ⟨t, 0, none⟩), .agg #[.int .i64 o.f0, .int .i64 o.f1, .string o.f2]] w fun e w' => DoneBy w t base K V vk vv o e w' := by
  have hu := Try.underlying40
  have hu2 := Try.underlying43
  have h2 : RTab ((w.alloc (.cells #[.int .i64 2, .int .i64 o.f1, .string o.f2] 40)).alloc (.cells #[.bool false, .string ⟨#[]⟩, .slice none 0 0, .slice none 0 0] 43)) t base K V vk vv := (h.below (below_alloc (Below.refl _ _) _)).below (below_alloc (Below.refl _ _) _)
  have hbl : Below w.heap.size w ((w.alloc (.cells #[.int .i64 2, .int .i64 o.f1, .string o.f2] 40)).alloc (.cells #[.bool false, .string ⟨#[]⟩, .slice none 0 0, .slice none 0 0] 43)) := below_alloc (below_alloc (Below.refl _ _) _) _
  have hq := blk_new (w.alloc (.cells #[.int .i64 2, .int .i64 o.f1, .string o.f2] 40)) (.cells #[.bool false, .string ⟨#[]⟩, .slice none 0 0, .slice none 0 0] 43)
  simp only [World.size_alloc] at hq
  have hc := rlook_any h2 hr o.f1
  have H := Lib.hid (And.intro h (And.intro hbl (And.intro hq (And.intro ho hr))))
  rw [ho]
  clear h hr h2 hbl hq ho
  go_enter Try.func37, Try.ntmps37
  go_wp2_with fail
  refine hc.mono ?_
  rintro e w1 ⟨lo, v, hlo, hv, rfl, hn⟩
  have hb1 : Below w.heap.size w w1 := by obtain ⟨n, rfl⟩ := hn; exact pw_below_drewN H.out.2.1 _
  have hq1 : w1.heap[w.heap.size + 1]? = some (.cells #[.bool false, .string ⟨#[]⟩, .slice none 0 0, .slice none 0 0] 43 (0, 0)) := by obtain ⟨n, rfl⟩ := hn; exact H.out.2.2.1
  have y0 := blk_cell hq1 (i := 0) rfl
  have y1 := blk_cell hq1 (i := 1) rfl
  have y2 := blk_cell hq1 (i := 2) rfl
  have y3 := blk_cell hq1 (i := 3) rfl
  have fz := blk_frozen hq1
  obtain ⟨b, hb⟩ : ∃ b, b = foundB K o.f1 lo := ⟨_, rfl⟩
  rw [← hb] at hv ⊢
  have HP := Lib.hid (And.intro hlo (And.intro hv (And.intro hb1 (And.intro hq1 hb))))
  clear hlo hv hb1 hq1 hb hc hn
  go_wp2_with fail
  have hres := set4 HP.out.2.2.2.1 (.bool b) (.string v) (.slice none 0 0) (.slice none 0 0)
  refine bodyPost_ret (results_cell_row rfl _ _ (w.heap.size + 1) 43 #[.bool b, .string v, .slice none 0 0, .slice none 0 0] (0, 0) _ rfl hres Try.underlying43 rfl (by kernel_rfl)) rfl ?_
  have hfin := DoneBy.of (w := w) (w1 := w1) (q := w.heap.size + 1) (o := o) (r := ⟨b, v, [], []⟩) (A2 := none) (c2 := 0) (A3 := none) (c3 := 0) (.bool b) (.string v) (.slice none 0 0) (.slice none 0 0) (K := K) (V := V)
    (by
      unfold DoIs
      rw [if_neg (by rw [H.out.2.2.2.1]; omega), if_pos H.out.2.2.2.1]
      refine ⟨lo, HP.out.1, rfl, rfl, ?_⟩
      rw [← HP.out.2.2.2.2, HP.out.2.1]
      cases b
      · rfl
      · rfl) H.out.1 H.out.2.2.2.2 HP.out.2.2.1 (by omega) (Nat.le_refl _) (Kd.C_nil _ _) (Nat.le_refl _) (Kd.C_nil _ _)
  exact hfin
set_option maxRecDepth 100000 in
set_option maxHeartbeats 2000000 in
theorem rdo_snap {w : World} {t base : Nat} {K : List Int} {V : List ByteArray} {vk vv : Value} (h : RTab w t base K V vk vv) (hr : Rising K) (o : S40) (h1 : o.f0 ≠ 1) (hk2 : o.f0 ≠ 2) :
    Calls Try.prog 37 #[.pointer (some ⟨t, 0, none⟩), .agg #[.int .i64 o.f0, .int .i64 o.f1, .string o.f2]] w fun e w' => DoneBy w t base K V vk vv o e w' := by
  have hu := Try.underlying40
  have hu2 := Try.underlying43
  have h2 : RTab ((w.alloc (.cells #[.int .i64 o.f0, .int .i64 o.f1, .string o.f2] 40)).alloc (.cells #[.bool false, .string ⟨#[]⟩, .slice none 0 0, .slice none 0 0] 43)) t base K V vk vv := (h.below (below_alloc (Below.refl _ _) _)).below (below_alloc (Below.refl _ _) _)
  have hbl : Below w.heap.size w ((w.alloc (.cells #[.int .i64 o.f0, .int .i64 o.f1, .string o.f2] 40)).alloc (.cells #[.bool false, .string ⟨#[]⟩, .slice none 0 0, .slice none 0 0] 43)) := below_alloc (below_alloc (Below.refl _ _) _) _
  have hq := blk_new (w.alloc (.cells #[.int .i64 o.f0, .int .i64 o.f1, .string o.f2] 40)) (.cells #[.bool false, .string ⟨#[]⟩, .slice none 0 0, .slice none 0 0] 43)
  simp only [World.size_alloc] at hq
  have hc := rsnap h2
  have e1 : (o.f0 == 1) = false := beq_eq_false_iff_ne.mpr h1
  have e2 : (o.f0 == 2) = false := beq_eq_false_iff_ne.mpr hk2
  have H := Lib.hid (And.intro h (And.intro hbl (And.intro hq (And.intro h1 (And.intro hk2 hr)))))
  clear h hr h2 hbl hq h1 hk2
  go_enter Try.func37, Try.ntmps37
  go_wp2_with fail
  refine hc.mono ?_
  rintro e w1 ⟨v2, v3, rfl, hcp⟩
  obtain ⟨k2, k3, hb⟩ := hcp
  obtain ⟨A2, c2, rfl⟩ := own_slice k2
  obtain ⟨A3, c3, rfl⟩ := own_slice k3
  have hb1 : Below w.heap.size w w1 := below_step H.out.2.1 hb
  have hq1 := blk_below H.out.2.2.1 hb
  have y0 := blk_cell hq1 (i := 0) rfl
  have y1 := blk_cell hq1 (i := 1) rfl
  have y2 := blk_cell hq1 (i := 2) rfl
  have y3 := blk_cell hq1 (i := 3) rfl
  have fz := blk_frozen hq1
  have HP := Lib.hid (And.intro k2 (And.intro k3 (And.intro hb1 hq1)))
  clear k2 k3 hb1 hq1 hc hb
  go_wp2_with fail
  have hres := set4 HP.out.2.2.2 (.bool true) (.string ⟨#[]⟩) (.slice A2 K.length c2) (.slice A3 V.length c3)
  refine bodyPost_ret (results_cell_row rfl _ _ (w.heap.size + 1) 43 #[.bool true, .string ⟨#[]⟩, .slice A2 K.length c2, .slice A3 V.length c3] (0, 0) _ rfl hres Try.underlying43 rfl (by kernel_rfl)) rfl ?_
  have hr2 := own_reads1 (h1 := fun _ => rfl) (row_move (W1 := stored4 w1 (w.heap.size + 1) (.bool true) (.string ⟨#[]⟩) (.slice A2 K.length c2) (.slice A3 V.length c3)) HP.out.1 fun g e => (stored4_only w1 _ _ _ _ _).block g (own_lt HP.out.1 e) (fun q => by have := (HP.out.1.lt g e).1; simp at this; omega))
  have hr3 := own_reads1 (h1 := fun _ => rfl) (row_move (W1 := stored4 w1 (w.heap.size + 1) (.bool true) (.string ⟨#[]⟩) (.slice A2 K.length c2) (.slice A3 V.length c3)) HP.out.2.1 fun g e => (stored4_only w1 _ _ _ _ _).block g (own_lt HP.out.2.1 e) (fun q => by have := (HP.out.2.1.lt g e).1; simp at this; omega))
  have hfin := DoneBy.of (w := w) (w1 := w1) (q := w.heap.size + 1) (o := o) (r := ⟨true, ⟨#[]⟩, K, V⟩) (A2 := A2) (c2 := c2) (A3 := A3) (c3 := c3) (.bool true) (.string ⟨#[]⟩) (.slice A2 K.length c2) (.slice A3 V.length c3) (K := K) (V := V)
    (by
      unfold DoIs
      rw [if_neg H.out.2.2.2.1, if_neg H.out.2.2.2.2.1]
      exact ⟨rfl, rfl, rfl⟩) H.out.1 H.out.2.2.2.2.2 HP.out.2.2.1 (by omega) hr2.2 hr2.1 hr3.2 hr3.1
  exact hfin
theorem rdo {w : World} {t base : Nat} {K : List Int} {V : List ByteArray} {vk vv : Value} (h : RTab w t base K V vk vv) (hr : Rising K) (hsm : K.length < 1099511627776) (hbs : base ≤ w.heap.size) (o : S40) :
    Calls Try.prog 37 #[.pointer (some ⟨t, 0, none⟩), .agg #[.int .i64 o.f0, .int .i64 o.f1, .string o.f2]] w fun e w' => DoneBy w t base K V vk vv o e w' := by
  by_cases h1 : o.f0 = 1
  · exact rdo_pub h hr hsm hbs o h1
  · by_cases h2 : o.f0 = 2
    · exact rdo_look h hr o h2
    · exact rdo_snap h hr o h1 h2
theorem eqints_loop (a b : List Int) (hl : a.length = b.length) (hs : a.length ≤ 9223372036854775806) : ∀ (k i : Nat), i ≤ a.length → a.length + 1 ≤ k + i → ∃ r, fugueref00_EqInts.l0 k a b (i : Int) = some r ∧ (r = true ↔ ∀ j, i ≤ j → j < a.length → a.getD j 0 = b.getD j 0) := by
  intro k
  induction k with
  | zero => intro i h1 h2; omega
  | succ k ih =>
    intro i h1 h2
    unfold fugueref00_EqInts.l0
    by_cases hi : i < a.length
    · have hw : wrap64 ((i : Int) + 1) = ((i + 1 : Nat) : Int) := by unfold wrap64; omega
      obtain ⟨r, hr, hq⟩ := ih (i + 1) (by omega) (by omega)
      have e1 : rd a (i : Int) = a.getD i 0 := rfl
      have e2 : rd b (i : Int) = b.getD i 0 := rfl
      by_cases he : a.getD i 0 = b.getD i 0
      · refine ⟨r, ?_, hq.trans ⟨fun h j a1 a2 => ?_, fun h j a1 a2 => h j (by omega) a2⟩⟩
        · simp only [e1, e2, hw, hr, he]
          repeat (first | rw [if_pos (by omega)] | rw [if_neg (by omega)] | rw [if_pos (by simp)] | rw [if_neg (by simp)])
        · rcases Nat.lt_or_ge i j with q | q
          · exact h j q a2
          · obtain rfl : i = j := by omega
            exact he
      · refine ⟨false, ?_, ⟨(fun h => by cases h), fun h => absurd (h i (Nat.le_refl _) hi) he⟩⟩
        simp only [e1, e2, hw, hr]
        repeat (first | rw [if_pos (by omega)] | rw [if_neg (by omega)] | rw [if_pos he] | rw [if_neg he])
    · refine ⟨true, ?_, ⟨fun _ j a1 a2 => by omega, fun _ => rfl⟩⟩
      rw [if_neg (by omega)]
theorem eqstrs_loop (a b : List ByteArray) (hl : a.length = b.length) (hs : a.length ≤ 9223372036854775806) : ∀ (k i : Nat), i ≤ a.length → a.length + 1 ≤ k + i → ∃ r, fugueref00_EqStrings.l0 k a b (i : Int) = some r ∧ (r = true ↔ ∀ j, i ≤ j → j < a.length → a.getD j ByteArray.empty = b.getD j ByteArray.empty) := by
  intro k
  induction k with
  | zero => intro i h1 h2; omega
  | succ k ih =>
    intro i h1 h2
    unfold fugueref00_EqStrings.l0
    by_cases hi : i < a.length
    · have hw : wrap64 ((i : Int) + 1) = ((i + 1 : Nat) : Int) := by unfold wrap64; omega
      obtain ⟨r, hr, hq⟩ := ih (i + 1) (by omega) (by omega)
      have e1 : rdOf ByteArray.empty a (i : Int) = a.getD i ByteArray.empty := rfl
      have e2 : rdOf ByteArray.empty b (i : Int) = b.getD i ByteArray.empty := rfl
      by_cases he : a.getD i ByteArray.empty = b.getD i ByteArray.empty
      · refine ⟨r, ?_, hq.trans ⟨fun h j a1 a2 => ?_, fun h j a1 a2 => h j (by omega) a2⟩⟩
        · simp only [e1, e2, hw, hr, he]
          repeat (first | rw [if_pos (by omega)] | rw [if_neg (by omega)] | rw [if_pos (by simp)] | rw [if_neg (by simp)])
        · rcases Nat.lt_or_ge i j with q | q
          · exact h j q a2
          · obtain rfl : i = j := by omega
            exact he
      · refine ⟨false, ?_, ⟨(fun h => by cases h), fun h => absurd (h i (Nat.le_refl _) hi) he⟩⟩
        simp only [e1, e2, hw, hr]
        repeat (first | rw [if_pos (by omega)] | rw [if_neg (by omega)] | rw [if_neg (fun q => he (str_eq.1 (beq_iff_eq.2 q)))])
    · refine ⟨true, ?_, ⟨fun _ j a1 a2 => by omega, fun _ => rfl⟩⟩
      rw [if_neg (by omega)]
theorem list_ext_getD {α : Type} (d : α) {a b : List α} (hl : a.length = b.length) (h : ∀ j, 0 ≤ j → j < a.length → a.getD j d = b.getD j d) : a = b := by
  refine List.ext_getElem hl fun j h1 h2 => ?_
  have := h j (Nat.zero_le _) h1
  rwa [List.getD_eq_getElem?_getD, List.getD_eq_getElem?_getD, List.getElem?_eq_getElem h1, List.getElem?_eq_getElem h2] at this
theorem eqints_some (a b : List Int) (hs : a.length ≤ 9223372036854775806) : ∃ r, fugueref00_EqInts.f (a.length + 1) a b = some r ∧ (r = true ↔ a = b) := by
  unfold fugueref00_EqInts.f
  by_cases hl : a.length = b.length
  · obtain ⟨r, h1, h2⟩ := eqints_loop a b hl hs (a.length + 1) 0 (Nat.zero_le _) (Nat.le_refl _)
    exact ⟨r, by rw [if_pos (by omega)]; exact h1, h2.trans ⟨fun h => list_ext_getD 0 hl h, fun h j _ _ => by rw [h]⟩⟩
  · exact ⟨false, by rw [if_neg (by omega)], (fun h => by cases h), fun h => absurd (by rw [h]) hl⟩
theorem eqstrs_some (a b : List ByteArray) (hs : a.length ≤ 9223372036854775806) : ∃ r, fugueref00_EqStrings.f (a.length + 1) a b = some r ∧ (r = true ↔ a = b) := by
  unfold fugueref00_EqStrings.f
  by_cases hl : a.length = b.length
  · obtain ⟨r, h1, h2⟩ := eqstrs_loop a b hl hs (a.length + 1) 0 (Nat.zero_le _) (Nat.le_refl _)
    exact ⟨r, by rw [if_pos (by omega)]; exact h1, h2.trans ⟨fun h => list_ext_getD _ hl h, fun h j _ _ => by rw [h]⟩⟩
  · exact ⟨false, by rw [if_neg (by omega)], (fun h => by cases h), fun h => absurd (by rw [h]) hl⟩
theorem eqreply_some (r s : S43) (hl : r.f2.length = r.f3.length) (hs : r.f2.length ≤ 9223372036854775806) : ∃ b, fugueref00_EqReply.f (r.f2.length + 1) r.f0 r.f1 r.f2 r.f3 s.f0 s.f1 s.f2 s.f3 = some b ∧ (b = true ↔ r = s) := by
  obtain ⟨a, a1, a2⟩ := eqints_some r.f2 s.f2 hs
  obtain ⟨b, b1, b2⟩ := eqstrs_some r.f3 s.f3 (by omega)
  rw [← hl] at b1
  have hx : r = s ↔ r.f0 = s.f0 ∧ r.f1 = s.f1 ∧ r.f2 = s.f2 ∧ r.f3 = s.f3 := ⟨fun h => by subst h; exact ⟨rfl, rfl, rfl, rfl⟩, fun h => by cases r; cases s; simp_all⟩
  rw [hx]
  unfold fugueref00_EqReply.f
  by_cases h0 : r.f0 = s.f0
  · rw [if_pos (beq_iff_eq.2 h0)]
    by_cases h1 : r.f1 = s.f1
    · rw [if_pos (by rw [h1]), a1]
      dsimp only [Option.bind_some]
      cases a
      · exact ⟨false, rfl, (fun h => by cases h), fun h => a2.2 h.2.2.1⟩
      · rw [if_pos rfl, b1]
        exact ⟨b, rfl, fun h => ⟨h0, h1, a2.1 rfl, b2.1 h⟩, fun h => b2.2 h.2.2.2⟩
    · exact ⟨false, by rw [if_neg (fun q => h1 (str_eq.1 (beq_iff_eq.2 q)))], (fun h => by cases h), fun h => absurd h.2.1 h1⟩
  · exact ⟨false, by rw [if_neg (fun q => h0 (beq_iff_eq.1 q))], (fun h => by cases h), fun h => absurd h.1 h0⟩
def atK (cs : List S70) (x : Int) : Nat → Option Nat
  | 0 => none
  | k + 1 => if (rd_T70 cs k).f0 = x then some k else atK cs x k
def atI : Option Nat → Int
  | none => -1
  | some k => (k : Nat)
theorem atK_lt {cs : List S70} {x : Int} {k : Nat} : ∀ {n : Nat}, atK cs x n = some k → k < n := by
  intro n
  induction n with
  | zero => intro h; cases h
  | succ n ih =>
    intro h
    unfold atK at h
    split at h
    · cases h; omega
    · have := ih h; omega
def clearB (x tt : Int) (bef : List S70) (n : Nat) : Prop := ∀ j, j < n → (rd_T70 bef j).f0 ≠ x ∧ ¬ tt < (rd_T70 bef j).f0
inductive Reach (cs : List S70) (os : List Int) : Nat → List S70 → List Int → List ByteArray → Prop
  | zero : Reach cs os 0 [] [] []
  | step {i : Nat} {bef : List S70} {K : List Int} {V : List ByteArray} {k : Nat} {K' : List Int} {V' : List ByteArray} {r : S43} : Reach cs os i bef K V → atK cs (os.getD i 0) cs.length = some k → clearB (os.getD i 0) (rd_T70 cs k).f1 bef bef.length →
      DoIs K V (rd_T70 cs k).f2 K' V' r → r = (rd_T70 cs k).f3 → Reach cs os (i + 1) (bef ++ [rd_T70 cs k]) K' V'
theorem does_one {K : List Int} {V : List ByteArray} {o : S40} {K1 : List Int} {V1 : List ByteArray} {r1 : S43} {K2 : List Int} {V2 : List ByteArray} {r2 : S43} (h : DoIs K V o K1 V1 r1) (g : DoIs K V o K2 V2 r2) : K1 = K2 ∧ V1 = V2 ∧ r1 = r2 := by
  unfold DoIs at h g
  split at h
  · rename_i h1
    rw [if_pos h1] at g
    obtain ⟨a, ha, hb⟩ := h
    obtain ⟨b, ga, gb⟩ := g
    obtain rfl := place_one ha ga
    split at hb
    · rename_i hf
      rw [if_pos hf] at gb
      obtain ⟨rfl, rfl, rfl⟩ := hb
      obtain ⟨rfl, rfl, rfl⟩ := gb
      exact ⟨rfl, rfl, rfl⟩
    · rename_i hf
      rw [if_neg hf] at gb
      obtain ⟨rfl, rfl, rfl⟩ := hb
      obtain ⟨rfl, rfl, rfl⟩ := gb
      exact ⟨rfl, rfl, rfl⟩
  · rename_i h1
    rw [if_neg h1] at g
    split at h
    · rename_i h2
      rw [if_pos h2] at g
      obtain ⟨a, ha, rfl, rfl, rfl⟩ := h
      obtain ⟨b, ga, rfl, rfl, rfl⟩ := g
      obtain rfl := place_one ha ga
      exact ⟨rfl, rfl, rfl⟩
    · rename_i h2
      rw [if_neg h2] at g
      obtain ⟨rfl, rfl, rfl⟩ := h
      obtain ⟨rfl, rfl, rfl⟩ := g
      exact ⟨rfl, rfl, rfl⟩
def Played (cs : List S70) (os : List Int) : Prop := os.length = cs.length ∧ ∃ bef K V, Reach cs os os.length bef K V
def pubOk (c : S70) (x : Int) : Prop := c.f2.f0 = 1 ∧ c.f3.f0 = true ∧ c.f2.f1 = x
theorem str_nil {s : ByteArray} (h : s.toList = ([] : List UInt8)) : s = ⟨#[]⟩ := str_eq.1 (by rw [h]; kernel_rfl)
/-! ### rising lists -/
theorem rising_inj {K : List Int} (hr : Rising K) {i j : Nat} (h : K.getD i 0 = K.getD j 0) (hi : i < K.length) (hj : j < K.length) : i = j := by
  rcases Nat.lt_trichotomy i j with a | a | a
  · have := hr i j a hj; omega
  · exact a
  · have := hr j i a hi; omega
theorem getD_mem0 {K : List Int} {i : Nat} (h : i < K.length) : K.getD i 0 ∈ K := by
  rw [List.getD_eq_getElem?_getD, List.getElem?_eq_getElem h]
  exact List.getElem_mem h
theorem mem_at0 {K : List Int} {x : Int} (h : x ∈ K) : ∃ i, i < K.length ∧ K.getD i 0 = x := by
  obtain ⟨i, hi, rfl⟩ := List.getElem_of_mem h
  exact ⟨i, hi, by rw [List.getD_eq_getElem?_getD, List.getElem?_eq_getElem hi]; rfl⟩
theorem found_iff {K : List Int} (hr : Rising K) {x : Int} {lo : Nat} (h : AtPlace K x lo) : foundB K x lo = true ↔ x ∈ K := by
  unfold foundB
  rw [Bool.and_eq_true, decide_eq_true_eq, decide_eq_true_eq]
  constructor
  · rintro ⟨a, b⟩
    rw [← b]
    exact getD_mem0 a
  · intro hx
    obtain ⟨i, hi, rfl⟩ := mem_at0 hx
    rcases Nat.lt_trichotomy i lo with a | a | a
    · have := h.low i a; omega
    · subst a; exact ⟨hi, rfl⟩
    · have h1 := h.high lo (Nat.le_refl _) (by omega)
      have h2 := hr lo i a hi
      omega
def Has (K : List Int) (V : List ByteArray) (x : Int) (v : ByteArray) : Prop := ∃ j, j < K.length ∧ K.getD j 0 = x ∧ V.getD j ⟨#[]⟩ = v
theorem Has.mem {K : List Int} {V : List ByteArray} {x : Int} {v : ByteArray} (h : Has K V x v) : x ∈ K := by
  obtain ⟨j, hj, rfl, _⟩ := h
  exact getD_mem0 hj
theorem has_mem {K : List Int} {x : Int} (V : List ByteArray) (h : x ∈ K) : ∃ v, Has K V x v := by
  obtain ⟨i, hi, rfl⟩ := mem_at0 h
  exact ⟨_, i, hi, rfl, rfl⟩
theorem holed_getD {α : Type} {l : List α} {k : Nat} (h : k ≤ l.length) (y d : α) (j : Nat) : (holed l k y).getD j d = if j < k then l.getD j d else if j = k then y else l.getD (j - 1) d := by
  unfold holed
  rw [List.getD_eq_getElem?_getD]
  split
  · rename_i a
    rw [List.getElem?_append_left (by rw [List.length_take]; omega), List.getElem?_take, if_pos a, List.getD_eq_getElem?_getD]
  · rename_i a
    rw [List.getElem?_append_right (by rw [List.length_take]; omega), List.length_take, Nat.min_eq_left h]
    split
    · rename_i b
      subst b
      rw [Nat.sub_self]
      rfl
    · obtain ⟨m, rfl⟩ : ∃ m, j = k + (m + 1) := ⟨j - k - 1, by omega⟩
      rw [show k + (m + 1) - k = m + 1 by omega, List.getElem?_cons_succ, List.getElem?_drop, List.getD_eq_getElem?_getD, show k + (m + 1) - 1 = k + m by omega]
theorem has_holed {K : List Int} {V : List ByteArray} (hl : K.length = V.length) {lo : Nat} (h : lo ≤ K.length) (y : Int) (u : ByteArray) (x : Int) (v : ByteArray) :
    Has (holed K lo y) (holed V lo u) x v ↔ (x = y ∧ v = u) ∨ Has K V x v := by
  constructor
  · rintro ⟨j, hj, h1, h2⟩
    rw [holed_len h] at hj
    rw [holed_getD h] at h1
    rw [holed_getD (by omega)] at h2
    split at h1
    · rename_i a
      rw [if_pos a] at h2
      exact .inr ⟨j, by omega, h1, h2⟩
    · rename_i a
      rw [if_neg a] at h2
      split at h1
      · rename_i b
        rw [if_pos b] at h2
        exact .inl ⟨h1.symm, h2.symm⟩
      · rename_i b
        rw [if_neg b] at h2
        exact .inr ⟨j - 1, by omega, h1, h2⟩
  · rintro (⟨rfl, rfl⟩ | ⟨j, hj, h1, h2⟩)
    · refine ⟨lo, by rw [holed_len h]; omega, ?_, ?_⟩
      · rw [holed_getD h, if_neg (by omega), if_pos rfl]
      · rw [holed_getD (by omega), if_neg (by omega), if_pos rfl]
    · rcases Nat.lt_or_ge j lo with a | a
      · refine ⟨j, by rw [holed_len h]; omega, ?_, ?_⟩
        · rw [holed_getD h, if_pos a]; exact h1
        · rw [holed_getD (by omega), if_pos a]; exact h2
      · refine ⟨j + 1, by rw [holed_len h]; omega, ?_, ?_⟩
        · rw [holed_getD h, if_neg (by omega), if_neg (by omega)]; exact h1
        · rw [holed_getD (by omega), if_neg (by omega), if_neg (by omega)]; exact h2
theorem rising_ext {A B : List Int} (ha : Rising A) (hb : Rising B) (h : ∀ x, x ∈ A ↔ x ∈ B) : A = B := by
  have sorted : ∀ {L : List Int}, Rising L → L.Pairwise (· < ·) := fun {L} hl => by
    rw [List.pairwise_iff_getElem]
    intro i j hi hj hij
    have := hl i j hij hj
    rw [List.getD_eq_getElem?_getD, List.getD_eq_getElem?_getD, List.getElem?_eq_getElem hi, List.getElem?_eq_getElem hj] at this
    exact this
  have key : ∀ (A B : List Int), A.Pairwise (· < ·) → B.Pairwise (· < ·) → (∀ x, x ∈ A ↔ x ∈ B) → A = B := by
    intro A
    induction A with
    | nil =>
      intro B _ _ h
      cases B with
      | nil => rfl
      | cons b B => have := (h b).2 (by simp); cases this
    | cons a A ih =>
      intro B hA hB h
      cases B with
      | nil => have := (h a).1 (by simp); cases this
      | cons b B =>
        obtain ⟨a1, a2⟩ := List.pairwise_cons.1 hA
        obtain ⟨b1, b2⟩ := List.pairwise_cons.1 hB
        have hab : a = b := by
          rcases List.mem_cons.1 ((h a).1 (by simp)) with q | q
          · exact q
          · rcases List.mem_cons.1 ((h b).2 (by simp)) with r | r
            · exact r.symm
            · have := b1 a q
              have := a1 b r
              omega
        subst hab
        rw [ih B a2 b2 fun x => ⟨fun hx => ?_, fun hx => ?_⟩]
        · rcases List.mem_cons.1 ((h x).1 (by simp [hx])) with q | q
          · have := a1 x hx; omega
          · exact q
        · rcases List.mem_cons.1 ((h x).2 (by simp [hx])) with q | q
          · have := b1 x hx; omega
          · exact q
  exact key A B (sorted ha) (sorted hb) h
theorem asc_rising {l : List Int} (h : ascFrom l 1 = true) : Rising l := by
  have h1 : ∀ j, j + 1 < l.length → l.getD j 0 < l.getD (j + 1) 0 := fun j hj => (of_decide_eq_true h) (j + 1) hj (by omega) (by omega)
  intro i j hij hj
  induction hij with
  | refl => exact h1 i hj
  | @step m hm ih => have := ih (by omega); have := h1 m hj; exact Int.lt_trans ‹_› ‹_›
/-! ### an order that goes on as the plain map answers -/
inductive Run (cs : List S70) : List Nat → List Int → List ByteArray → Prop
  | nil : Run cs [] [] []
  | snoc {is : List Nat} {K : List Int} {V : List ByteArray} {k : Nat} {K' : List Int} {V' : List ByteArray} : Run cs is K V → k < cs.length → k ∉ is → (∀ j ∈ is, ¬ (rd_T70 cs (k : Nat)).f1 < (rd_T70 cs (j : Nat)).f0) →
      DoIs K V (rd_T70 cs (k : Nat)).f2 K' V' (rd_T70 cs (k : Nat)).f3 → Run cs (is ++ [k]) K' V'
structure StR (cs : List S70) (is : List Nat) (K : List Int) (V : List ByteArray) : Prop where
  rise : Rising K
  len : K.length = V.length
  has : ∀ x v, Has K V x v ↔ ∃ k ∈ is, pubOk (rd_T70 cs (k : Nat)) x ∧ (rd_T70 cs (k : Nat)).f2.f2 = v
theorem StR.mem {cs : List S70} {is : List Nat} {K : List Int} {V : List ByteArray} (h : StR cs is K V) (x : Int) : x ∈ K ↔ ∃ k ∈ is, pubOk (rd_T70 cs (k : Nat)) x := by
  constructor
  · intro hx
    obtain ⟨v, hv⟩ := has_mem V hx
    obtain ⟨k, k1, k2, _⟩ := (h.has x v).1 hv
    exact ⟨k, k1, k2⟩
  · rintro ⟨k, k1, k2⟩
    exact ((h.has x _).2 ⟨k, k1, k2, rfl⟩).mem
theorem StR.same {cs : List S70} {is : List Nat} {K : List Int} {V : List ByteArray} (h : StR cs is K V) {k : Nat} (hk : ∀ x, ¬ pubOk (rd_T70 cs (k : Nat)) x) : StR cs (is ++ [k]) K V :=
  ⟨h.rise, h.len, fun x v => (h.has x v).trans ⟨fun ⟨j, a, b⟩ => ⟨j, List.mem_append_left _ a, b⟩, fun ⟨j, a, b⟩ => by
    rcases List.mem_append.1 a with q | q
    · exact ⟨j, q, b⟩
    · obtain rfl := List.mem_singleton.1 q
      exact absurd b.1 (hk x)⟩⟩
theorem StR.put {cs : List S70} {is : List Nat} {K : List Int} {V : List ByteArray} (h : StR cs is K V) {k lo : Nat} (hk : pubOk (rd_T70 cs (k : Nat)) (rd_T70 cs (k : Nat)).f2.f1) (hp : AtPlace K (rd_T70 cs (k : Nat)).f2.f1 lo) (hf : foundB K (rd_T70 cs (k : Nat)).f2.f1 lo = false) :
    StR cs (is ++ [k]) (holed K lo (rd_T70 cs (k : Nat)).f2.f1) (holed V lo (rd_T70 cs (k : Nat)).f2.f2) := by
  have hlo := hp.le
  refine ⟨rising_holed h.rise hp hf, by rw [holed_len hp.le, holed_len (by have := h.len; omega), h.len], fun x v => (has_holed h.len hp.le _ _ x v).trans ⟨?_, ?_⟩⟩
  · rintro (⟨rfl, rfl⟩ | q)
    · exact ⟨k, by simp, hk, rfl⟩
    · obtain ⟨j, a, b⟩ := (h.has x v).1 q
      exact ⟨j, List.mem_append_left _ a, b⟩
  · rintro ⟨j, a, b, c⟩
    rcases List.mem_append.1 a with q | q
    · exact .inr ((h.has x v).2 ⟨j, q, b, c⟩)
    · obtain rfl := List.mem_singleton.1 q
      exact .inl ⟨b.2.2.symm, c.symm⟩
theorem run_st {cs : List S70} {is : List Nat} {K : List Int} {V : List ByteArray} (h : Run cs is K V) : StR cs is K V := by
  induction h with
  | nil => exact ⟨fun i j _ h => absurd h (Nat.not_lt_zero _), rfl, fun x v => ⟨(fun ⟨j, h, _⟩ => absurd h (Nat.not_lt_zero _)), fun ⟨k, h, _⟩ => by cases h⟩⟩
  | snoc _ _ _ _ hd ih =>
    unfold DoIs at hd
    split at hd
    · rename_i h1
      obtain ⟨lo, hp, hd⟩ := hd
      split at hd
      · obtain ⟨rfl, rfl, hr⟩ := hd
        exact ih.same fun x q => by have q2 := q.2.1; rw [hr] at q2; cases q2
      · rename_i hf
        obtain ⟨rfl, rfl, hr⟩ := hd
        exact ih.put ⟨h1, by rw [hr], rfl⟩ hp (by simpa using hf)
    · rename_i h1
      split at hd
      · obtain ⟨lo, _, rfl, rfl, _⟩ := hd
        exact ih.same fun x q => h1 q.1
      · obtain ⟨rfl, rfl, _⟩ := hd
        exact ih.same fun x q => h1 q.1
/-! ### who made what -/
theorem mk_iff {cs : List S70} : ∀ (i : Nat) (mk : Mk), mkAt cs i = some mk → ∀ x k, mk x = some k ↔ k < i ∧ pubOk (rd_T70 cs (k : Nat)) x := by
  intro i
  induction i with
  | zero =>
    intro mk h x k
    cases h
    exact ⟨(fun q => by cases q), fun q => absurd q.1 (Nat.not_lt_zero _)⟩
  | succ i ih =>
    intro mk h x k
    rw [mkAt_succ] at h
    obtain ⟨m1, h1, h2⟩ := Option.bind_eq_some_iff.1 h
    have I := ih m1 h1
    unfold mstep at h2
    split at h2
    · rename_i hp
      split at h2
      · rename_i hn
        obtain rfl := Option.some.inj h2
        simp only [upd1]
        split
        · rename_i hx
          subst hx
          constructor
          · intro q
            obtain rfl := Option.some.inj q
            exact ⟨by omega, hp.1, hp.2, rfl⟩
          · rintro ⟨a, b⟩
            rcases Nat.lt_or_ge k i with c | c
            · have := (I _ k).2 ⟨c, b⟩
              rw [hn] at this
              cases this
            · rw [show i = k by omega]
        · rename_i hx
          rw [I x k]
          constructor
          · rintro ⟨a, b⟩; exact ⟨by omega, b⟩
          · rintro ⟨a, b⟩
            rcases Nat.lt_or_ge k i with c | c
            · exact ⟨c, b⟩
            · obtain rfl : k = i := by omega
              exact absurd b.2.2.symm hx
      · cases h2
    · rename_i hp
      obtain rfl := Option.some.inj h2
      rw [I x k]
      constructor
      · rintro ⟨a, b⟩; exact ⟨by omega, b⟩
      · rintro ⟨a, b⟩
        rcases Nat.lt_or_ge k i with c | c
        · exact ⟨c, b⟩
        · obtain rfl : k = i := by omega
          exact absurd ⟨b.1, b.2.1⟩ hp
structure Made (cs : List S70) (mk : Mk) : Prop where
  who : ∀ x k, mk x = some k ↔ k < cs.length ∧ pubOk (rd_T70 cs (k : Nat)) x
  fits : ∀ k, k < cs.length → fitsB cs mk (rd_T70 cs (k : Nat)) = true
theorem made_of {cs : List S70} {mk : Mk} (h : madeB cs = some mk) : Made cs mk := by
  unfold madeB at h
  obtain ⟨m1, h1, h2⟩ := Option.bind_eq_some_iff.1 h
  split at h2
  · rename_i hh
    obtain rfl := Option.some.inj h2
    exact ⟨mk_iff _ _ h1, hh⟩
  · cases h2
theorem held_iff {cs : List S70} {mk : Mk} (h : Made cs mk) {k : Nat} (hk : k < cs.length) : heldB cs mk k = true ↔ pubOk (rd_T70 cs (k : Nat)) (rd_T70 cs (k : Nat)).f2.f1 := by
  unfold heldB
  rw [Bool.and_eq_true, decide_eq_true_eq, decide_eq_true_eq]
  constructor
  · rintro ⟨a, _⟩; exact ((h.who _ _).1 a).2
  · intro a; exact ⟨(h.who _ _).2 ⟨hk, a⟩, a.1⟩
theorem Made.one {cs : List S70} {mk : Mk} (h : Made cs mk) {x : Int} {j k : Nat} (hj : j < cs.length) (hk : k < cs.length) (pj : pubOk (rd_T70 cs (j : Nat)) x) (pk : pubOk (rd_T70 cs (k : Nat)) x) : j = k := by
  have a := (h.who x j).2 ⟨hj, pj⟩
  have b := (h.who x k).2 ⟨hk, pk⟩
  rw [a] at b
  exact Option.some.inj b
/-! ### a right reply, by kinds -/
theorem op_kind {o : S40} (h : opB o = true) : o.f0 = 1 ∨ o.f0 = 2 ∨ o.f0 = 3 := by
  unfold opB at h
  by_cases c1 : o.f0 = 1
  · exact .inl c1
  · by_cases c2 : o.f0 = 2
    · exact .inr (.inl c2)
    · by_cases c3 : o.f0 = 3
      · exact .inr (.inr c3)
      · rw [if_neg c1, if_neg c2, if_neg c3] at h; cases h
theorem reply_pub {o : S40} {r : S43} (h : replyB o r = true) (ho : o.f0 = 1) : r = ⟨r.f0, ⟨#[]⟩, [], []⟩ := by
  unfold replyB at h
  rw [if_neg (by omega)] at h
  simp only [Bool.and_eq_true, Bool.or_eq_true, decide_eq_true_eq, beq_iff_eq] at h
  obtain ⟨h1, h2, h3⟩ := h
  have e1 := List.eq_nil_of_length_eq_zero h1
  have e2 := List.eq_nil_of_length_eq_zero h2
  have e3 : r.f1 = ⟨#[]⟩ := by
    rcases h3 with q | q
    · exact str_nil q
    · omega
  cases r
  simp_all
theorem reply_look {o : S40} {r : S43} (h : replyB o r = true) (ho : o.f0 = 2) : r = ⟨r.f0, r.f1, [], []⟩ ∧ (r.f0 = false → r = z43) := by
  unfold replyB at h
  rw [if_neg (by omega)] at h
  simp only [Bool.and_eq_true, Bool.or_eq_true, decide_eq_true_eq, beq_iff_eq] at h
  obtain ⟨h1, h2, h3⟩ := h
  have e1 := List.eq_nil_of_length_eq_zero h1
  have e2 := List.eq_nil_of_length_eq_zero h2
  refine ⟨by cases r; simp_all, fun h0 => ?_⟩
  have e3 : r.f1 = ⟨#[]⟩ := by
    rcases h3 with q | q
    · exact str_nil q
    · rw [h0] at q; cases q.2
  unfold z43
  cases r
  simp_all
theorem reply_snap {o : S40} {r : S43} (h : replyB o r = true) (ho : o.f0 = 3) : r = ⟨true, ⟨#[]⟩, r.f2, r.f3⟩ ∧ r.f2.length = r.f3.length ∧ Rising r.f2 := by
  unfold replyB at h
  rw [if_pos ho] at h
  simp only [Bool.and_eq_true, decide_eq_true_eq, beq_iff_eq] at h
  obtain ⟨h1, h2, h3, h4⟩ := h
  have e2 := str_nil h2
  exact ⟨by cases r; simp_all, h3, asc_rising h4⟩
/-! ### who must stand ahead -/
theorem edge_iff {cs : List S70} {mk : Mk} {k i : Nat} : edgeB cs mk k i = true ↔ k ≠ i ∧ ((rd_T70 cs (k : Nat)).f1 < (rd_T70 cs (i : Nat)).f0 ∨ sawB cs mk (rd_T70 cs (i : Nat)) k = true ∨ missedB cs mk (rd_T70 cs (k : Nat)) i = true) := by
  unfold edgeB
  simp only [Bool.and_eq_true, Bool.or_eq_true, decide_eq_true_eq]
theorem saw_iff {cs : List S70} {mk : Mk} (h : Made cs mk) {c : S70} {k : Nat} (hk : k < cs.length) : sawB cs mk c k = true ↔ pubOk (rd_T70 cs (k : Nat)) (rd_T70 cs (k : Nat)).f2.f1 ∧ sawTail c (rd_T70 cs (k : Nat)).f2.f1 = true := by
  unfold sawB
  rw [Bool.and_eq_true, held_iff h hk]
theorem missed_iff {cs : List S70} {mk : Mk} (h : Made cs mk) {c : S70} {k : Nat} (hk : k < cs.length) : missedB cs mk c k = true ↔ pubOk (rd_T70 cs (k : Nat)) (rd_T70 cs (k : Nat)).f2.f1 ∧ missedTail c (rd_T70 cs (k : Nat)).f2.f1 = true := by
  unfold missedB
  rw [Bool.and_eq_true, held_iff h hk]
theorem edge_saw {cs : List S70} {mk : Mk} (h : Made cs mk) {j k : Nat} {x : Int} (hj : j < cs.length) (hne : j ≠ k) (hp : pubOk (rd_T70 cs (j : Nat)) x) (hs : sawTail (rd_T70 cs (k : Nat)) x = true) : edgeB cs mk j k = true := by
  have e : (rd_T70 cs (j : Nat)).f2.f1 = x := hp.2.2
  exact edge_iff.2 ⟨hne, .inr (.inl ((saw_iff h hj).2 ⟨by rw [e]; exact hp, by rw [e]; exact hs⟩))⟩
theorem edge_missed {cs : List S70} {mk : Mk} (h : Made cs mk) {j k : Nat} {x : Int} (hk : k < cs.length) (hne : j ≠ k) (hp : pubOk (rd_T70 cs (k : Nat)) x) (hs : missedTail (rd_T70 cs (j : Nat)) x = true) : edgeB cs mk j k = true := by
  have e : (rd_T70 cs (k : Nat)).f2.f1 = x := hp.2.2
  exact edge_iff.2 ⟨hne, .inr (.inr ((missed_iff h hk).2 ⟨by rw [e]; exact hp, by rw [e]; exact hs⟩))⟩
def Down (cs : List S70) (mk : Mk) (D : List Nat) (k : Nat) : Prop := ∀ j, j < cs.length → edgeB cs mk j k = true → j ∈ D
theorem given_some {cs : List S70} {mk : Mk} {x : Int} {v : ByteArray} : givenV cs mk x = some v ↔ ∃ k, mk x = some k ∧ (rd_T70 cs (k : Nat)).f2.f2 = v := by
  unfold givenV
  cases mk x <;> simp
theorem doPubOld {K : List Int} {V : List ByteArray} {o : S40} {r : S43} {lo : Nat} (ho : o.f0 = 1) (hp : AtPlace K o.f1 lo) (hf : foundB K o.f1 lo = true) (hr : r = z43) : DoIs K V o K V r := by
  unfold DoIs
  rw [if_pos ho]
  exact ⟨lo, hp, by rw [if_pos hf]; exact ⟨rfl, rfl, hr⟩⟩
theorem doPubNew {K : List Int} {V : List ByteArray} {o : S40} {r : S43} {lo : Nat} (ho : o.f0 = 1) (hp : AtPlace K o.f1 lo) (hf : ¬ foundB K o.f1 lo = true) (hr : r = ⟨true, ⟨#[]⟩, [], []⟩) : DoIs K V o (holed K lo o.f1) (holed V lo o.f2) r := by
  unfold DoIs
  rw [if_pos ho]
  exact ⟨lo, hp, by rw [if_neg hf]; exact ⟨rfl, rfl, hr⟩⟩
theorem doLook {K : List Int} {V : List ByteArray} {o : S40} {r : S43} {lo : Nat} (ho : o.f0 = 2) (hp : AtPlace K o.f1 lo) (hr : r = if foundB K o.f1 lo = true then ⟨true, V.getD lo ⟨#[]⟩, [], []⟩ else z43) : DoIs K V o K V r := by
  unfold DoIs
  rw [if_neg (by omega), if_pos ho]
  exact ⟨lo, hp, rfl, rfl, hr⟩
theorem doSnap {K : List Int} {V : List ByteArray} {o : S40} {r : S43} (ho : o.f0 = 3) (hr : r = ⟨true, ⟨#[]⟩, K, V⟩) : DoIs K V o K V r := by
  unfold DoIs
  rw [if_neg (by omega), if_neg (by omega)]
  exact ⟨rfl, rfl, hr⟩
theorem run_step {cs : List S70} (hc : CsOk cs) {mk : Mk} (hm : Made cs mk) {is : List Nat} {K : List Int} {V : List ByteArray} (hr : Run cs is K V) (hin : ∀ j ∈ is, j < cs.length) (hdn : ∀ j ∈ is, Down cs mk is j) {k : Nat} (hk : k < cs.length) (hnk : k ∉ is) (hd : Down cs mk is k) :
    ∃ K' V', Run cs (is ++ [k]) K' V' := by
  have hst := run_st hr
  have hne : ∀ j ∈ is, j ≠ k := fun j hj e => hnk (by rw [← e]; exact hj)
  have hclock : ∀ j ∈ is, ¬ (rd_T70 cs (k : Nat)).f1 < (rd_T70 cs (j : Nat)).f0 := fun j hj q => hnk (hdn j hj k hk (edge_iff.2 ⟨fun e => hne j hj e.symm, .inl q⟩))
  suffices hdo : ∃ K' V', DoIs K V (rd_T70 cs (k : Nat)).f2 K' V' (rd_T70 cs (k : Nat)).f3 by
    obtain ⟨K', V', hdo⟩ := hdo
    exact ⟨K', V', .snoc hr hk hnk hclock hdo⟩
  have hrep := hc.reply k hk
  have hfit := hm.fits k hk
  have hmiss : ∀ x, missedTail (rd_T70 cs (k : Nat)) x = true → x ∉ K := fun x hx q => by
    obtain ⟨j, j1, j2⟩ := (hst.mem x).1 q
    exact hnk (hdn j j1 k hk (edge_missed hm (hin j j1) (fun e => hne j j1 e.symm) j2 hx))
  have hsaw : ∀ x j, j < cs.length → j ≠ k → pubOk (rd_T70 cs (j : Nat)) x → sawTail (rd_T70 cs (k : Nat)) x = true → j ∈ is := fun x j hj hn hp hs => hd j hj (edge_saw hm hj hn hp hs)
  rcases op_kind (hc.op k hk) with ho | ho | ho
  · obtain ⟨lo, hp⟩ := place_ex hst.rise (rd_T70 cs (k : Nat)).f2.f1
    have hform := reply_pub hrep ho
    cases hok : (rd_T70 cs (k : Nat)).f3.f0 with
    | true =>
      rw [hok] at hform
      have hpk : pubOk (rd_T70 cs (k : Nat)) (rd_T70 cs (k : Nat)).f2.f1 := ⟨ho, hok, rfl⟩
      have hnf : ¬ foundB K (rd_T70 cs (k : Nat)).f2.f1 lo = true := fun q => by
        obtain ⟨j, j1, j2⟩ := (hst.mem _).1 ((found_iff hst.rise hp).1 q)
        exact hne j j1 (hm.one (hin j j1) hk j2 hpk)
      exact ⟨_, _, doPubNew ho hp hnf hform⟩
    | false =>
      rw [hok] at hform
      have hfs : (mk (rd_T70 cs (k : Nat)).f2.f1).isSome = true := by unfold fitsB at hfit; rwa [if_pos ho] at hfit
      obtain ⟨j, hj⟩ := Option.isSome_iff_exists.1 hfs
      obtain ⟨j1, j2⟩ := (hm.who _ _).1 hj
      have hjk : j ≠ k := fun e => by subst e; rw [j2.2.1] at hok; cases hok
      have hmem := hsaw _ j j1 hjk j2 (by
        unfold sawTail
        rw [if_neg (by omega), if_pos ho, hok]
        simp)
      have hf := (found_iff hst.rise hp).2 ((hst.mem _).2 ⟨j, hmem, j2⟩)
      exact ⟨_, _, doPubOld ho hp hf hform⟩
  · obtain ⟨lo, hp⟩ := place_ex hst.rise (rd_T70 cs (k : Nat)).f2.f1
    obtain ⟨hform, hzero⟩ := reply_look hrep ho
    cases hok : (rd_T70 cs (k : Nat)).f3.f0 with
    | true =>
      rw [hok] at hform
      have hfs : givenV cs mk (rd_T70 cs (k : Nat)).f2.f1 = some (rd_T70 cs (k : Nat)).f3.f1 := by
        unfold fitsB at hfit
        rw [if_neg (by omega), if_pos ho, hok] at hfit
        simpa using hfit
      obtain ⟨j, hj, hv⟩ := given_some.1 hfs
      obtain ⟨j1, j2⟩ := (hm.who _ _).1 hj
      have hjk : j ≠ k := fun e => by subst e; have := j2.1; omega
      have hmem := hsaw _ j j1 hjk j2 (by
        unfold sawTail
        rw [if_neg (by omega), if_neg (by omega), hok]
        simp)
      have hhas := (hst.has _ _).2 ⟨j, hmem, j2, hv⟩
      have hf := (found_iff hst.rise hp).2 hhas.mem
      have hval : V.getD lo ⟨#[]⟩ = (rd_T70 cs (k : Nat)).f3.f1 := by
        obtain ⟨i, i1, i2, i3⟩ := hhas
        have hf2 := hf
        unfold foundB at hf2
        rw [Bool.and_eq_true, decide_eq_true_eq, decide_eq_true_eq] at hf2
        have := rising_inj hst.rise (i2.trans hf2.2.symm) i1 hf2.1
        rw [← this]
        exact i3
      exact ⟨_, _, doLook ho hp (by rw [if_pos hf, hval]; exact hform)⟩
    | false =>
      have hnf : ¬ foundB K (rd_T70 cs (k : Nat)).f2.f1 lo = true := fun q => hmiss _ (by
        unfold missedTail
        rw [if_neg (by omega), if_pos ho, hok]
        simp) ((found_iff hst.rise hp).1 q)
      exact ⟨_, _, doLook ho hp (by rw [if_neg hnf]; exact hzero hok)⟩
  · obtain ⟨hform, hlen, hris⟩ := reply_snap hrep ho
    have hsn : snapB cs mk (rd_T70 cs (k : Nat)).f3.f2 (rd_T70 cs (k : Nat)).f3.f3 (rd_T70 cs (k : Nat)).f3.f2.length := by
      unfold fitsB at hfit
      rw [if_neg (by omega), if_neg (by omega)] at hfit
      exact of_decide_eq_true hfit
    have hhas : ∀ j, j < (rd_T70 cs (k : Nat)).f3.f2.length → Has K V ((rd_T70 cs (k : Nat)).f3.f2.getD j 0) ((rd_T70 cs (k : Nat)).f3.f3.getD j ⟨#[]⟩) := fun j hj => by
      obtain ⟨i, hi, hv⟩ := given_some.1 (hsn j hj)
      obtain ⟨i1, i2⟩ := (hm.who _ _).1 hi
      have hik : i ≠ k := fun e => by subst e; have := i2.1; omega
      have hmem := hsaw _ i i1 hik i2 (by
        unfold sawTail
        rw [if_pos ho]
        exact idx_isSome.2 (getD_mem0 hj))
      exact (hst.has _ _).2 ⟨i, hmem, i2, hv⟩
    have hK : (rd_T70 cs (k : Nat)).f3.f2 = K := rising_ext hris hst.rise fun x => ⟨fun hx => by
      obtain ⟨j, hj, rfl⟩ := mem_at0 hx
      exact (hhas j hj).mem, fun hx => by
      refine Classical.byContradiction fun hn => hmiss x ?_ hx
      unfold missedTail
      rw [if_pos ho]
      cases q : (idx (rd_T70 cs (k : Nat)).f3.f2 x).isSome with
      | false => rfl
      | true => exact absurd (idx_isSome.1 q) hn⟩
    have hV : (rd_T70 cs (k : Nat)).f3.f3 = V := by
      refine list_ext_getD ⟨#[]⟩ (by rw [← hlen, hK, hst.len]) fun j _ hj => ?_
      obtain ⟨i, i1, i2, i3⟩ := hhas j (by omega)
      rw [hK] at i2
      have := rising_inj hst.rise i2 i1 (by rw [← hK]; omega)
      subst this
      exact i3.symm
    exact ⟨_, _, doSnap ho (by rw [← hK, ← hV]; exact hform)⟩
/-! ### an order of all calls that goes on so -/
theorem run_take {cs : List S70} {is : List Nat} {K : List Int} {V : List ByteArray} (h : Run cs is K V) : (∀ j ∈ is, j < cs.length) ∧ is.Nodup ∧ ∀ t k, is[t]? = some k → ∃ K V K' V', Run cs (is.take t) K V ∧ k ∉ is.take t ∧ (∀ j ∈ is.take t, ¬ (rd_T70 cs (k : Nat)).f1 < (rd_T70 cs (j : Nat)).f0) ∧ DoIs K V (rd_T70 cs (k : Nat)).f2 K' V' (rd_T70 cs (k : Nat)).f3 := by
  induction h with
  | nil => exact ⟨(fun j h => by cases h), List.nodup_nil, fun t k h => by cases h⟩
  | @snoc is K V k K' V' hr hk hn hcl hd ih =>
    obtain ⟨i1, i2, i3⟩ := ih
    refine ⟨fun j hj => ?_, List.nodup_append.2 ⟨i2, by simp, fun a ha b hb => by
      obtain rfl := List.mem_singleton.1 hb
      exact fun e => hn (by rw [← e]; exact ha)⟩, fun t k' ht => ?_⟩
    · rcases List.mem_append.1 hj with q | q
      · exact i1 j q
      · obtain rfl := List.mem_singleton.1 q; exact hk
    · rcases Nat.lt_or_ge t is.length with a | a
      · rw [List.getElem?_append_left a] at ht
        obtain ⟨K1, V1, K2, V2, b1, b2, b3, b4⟩ := i3 t k' ht
        rw [List.take_append_of_le_length (by omega)]
        exact ⟨K1, V1, K2, V2, b1, b2, b3, b4⟩
      · rw [List.getElem?_append_right a] at ht
        have ht0 : t - is.length = 0 := by
          rcases Nat.eq_zero_or_pos (t - is.length) with q | q
          · exact q
          · rw [List.getElem?_eq_none (by simp; omega)] at ht; cases ht
        rw [ht0] at ht
        obtain rfl : k = k' := Option.some.inj ht
        obtain rfl : t = is.length := by omega
        rw [List.take_left']
        · exact ⟨K, V, K', V', hr, hn, hcl, hd⟩
        · rfl
theorem take_at {is : List Nat} {s t k : Nat} (hs : is[s]? = some k) (hst : s < t) : k ∈ is.take t := by
  refine List.mem_of_getElem? (i := s) ?_
  rw [List.getElem?_take, if_pos hst]
  exact hs
theorem mem_place {is : List Nat} {k : Nat} (h : k ∈ is) : ∃ t, t < is.length ∧ is[t]? = some k := by
  obtain ⟨i, hi, rfl⟩ := List.getElem_of_mem h
  exact ⟨i, hi, List.getElem?_eq_getElem hi⟩
theorem nodup_idx {is : List Nat} (hn : is.Nodup) {s t k : Nat} (hs : is[s]? = some k) (ht : is[t]? = some k) : s = t :=
  (List.getElem?_inj (List.getElem?_eq_some_iff.1 hs).1 hn).1 (hs.trans ht.symm)
theorem all_in {n : Nat} {is : List Nat} (hn : is.Nodup) (hin : ∀ j ∈ is, j < n) (hl : is.length = n) : ∀ k, k < n → k ∈ is := by
  intro k hk
  refine Classical.byContradiction fun hm => ?_
  have := nodup_len (l1 := k :: is) (l2 := List.range n) (List.nodup_cons.2 ⟨hm, hn⟩) fun x hx => by
    rcases List.mem_cons.1 hx with rfl | q
    · exact List.mem_range.2 hk
    · exact List.mem_range.2 (hin x q)
  simp at this
  omega
structure LinExt (cs : List S70) (mk : Mk) (is : List Nat) : Prop where
  len : is.length = cs.length
  nodup : is.Nodup
  lt : ∀ j ∈ is, j < cs.length
  down : ∀ t k, is[t]? = some k → Down cs mk (is.take t) k
theorem made_of_run {cs : List S70} (hc : CsOk cs) {is : List Nat} {K : List Int} {V : List ByteArray} (h : Run cs is K V) (hl : is.length = cs.length) : ∃ mk, madeB cs = some mk ∧ LinExt cs mk is := by
  obtain ⟨h1, h2, h3⟩ := run_take h
  have hall := all_in h2 h1 hl
  have hat : ∀ k, k < cs.length → ∃ t K V K' V', is[t]? = some k ∧ Run cs (is.take t) K V ∧ k ∉ is.take t ∧ (∀ j ∈ is.take t, ¬ (rd_T70 cs (k : Nat)).f1 < (rd_T70 cs (j : Nat)).f0) ∧ DoIs K V (rd_T70 cs (k : Nat)).f2 K' V' (rd_T70 cs (k : Nat)).f3 := fun k hk => by
    obtain ⟨t, _, ht⟩ := mem_place (hall k hk)
    obtain ⟨K, V, K', V', q⟩ := h3 t k ht
    exact ⟨t, K, V, K', V', ht, q⟩
  have huniq : ∀ j k x, j < cs.length → k < cs.length → pubOk (rd_T70 cs (j : Nat)) x → pubOk (rd_T70 cs (k : Nat)) x → ∀ t s : Nat, is[t]? = some k → is[s]? = some j → ¬ s < t := by
    intro j k x hj hk pj pk t s ht hs hst
    obtain ⟨K, V, K', V', r1, _, _, r4⟩ := h3 t k ht
    have hS := run_st r1
    have hx : x ∈ K := (hS.mem x).2 ⟨j, take_at hs hst, pj⟩
    unfold DoIs at r4
    rw [if_pos pk.1] at r4
    obtain ⟨lo, hp, r⟩ := r4
    rw [pk.2.2] at hp r
    rw [if_pos ((found_iff hS.rise hp).2 hx)] at r
    have := pk.2.1
    rw [r.2.2] at this
    cases this
  have hone : ∀ j k x, j < cs.length → k < cs.length → pubOk (rd_T70 cs (j : Nat)) x → pubOk (rd_T70 cs (k : Nat)) x → j = k := by
    intro j k x hj hk pj pk
    obtain ⟨s, _, hs⟩ := mem_place (hall j hj)
    obtain ⟨t, _, ht⟩ := mem_place (hall k hk)
    have a := huniq j k x hj hk pj pk t s ht hs
    have b := huniq k j x hk hj pk pj s t hs ht
    obtain rfl : s = t := by omega
    rw [hs] at ht
    exact Option.some.inj ht
  have hmk : ∀ i, i ≤ cs.length → ∃ mk, mkAt cs i = some mk := by
    intro i
    induction i with
    | zero => intro _; exact ⟨_, rfl⟩
    | succ i ih =>
      intro hi
      obtain ⟨mk, hm⟩ := ih (by omega)
      rw [mkAt_succ, hm, Option.bind_some]
      unfold mstep
      split
      · rename_i hp
        have : mk (rd_T70 cs i).f2.f1 = none := by
          cases q : mk (rd_T70 cs i).f2.f1 with
          | none => rfl
          | some j =>
            obtain ⟨j1, j2⟩ := (mk_iff i mk hm _ _).1 q
            have := hone j i _ (by omega) (by omega) j2 ⟨hp.1, hp.2, rfl⟩
            omega
        rw [if_pos this]
        exact ⟨_, rfl⟩
      · exact ⟨_, rfl⟩
  obtain ⟨mk, hm⟩ := hmk cs.length (Nat.le_refl _)
  have hM := mk_iff _ _ hm
  have hgive : ∀ {t : Nat} {K : List Int} {V : List ByteArray} {x : Int} {v : ByteArray}, StR cs (is.take t) K V → Has K V x v → givenV cs mk x = some v := fun {t K V x v} hS hh => by
    obtain ⟨j, j1, j2, j3⟩ := (hS.has x v).1 hh
    exact given_some.2 ⟨j, (hM x j).2 ⟨h1 j (List.mem_of_mem_take j1), j2⟩, j3⟩
  have hfound : ∀ {K : List Int} {V : List ByteArray} {x : Int} {lo : Nat}, foundB K x lo = true → Has K V x (V.getD lo ⟨#[]⟩) := fun {K V x lo} hf => by
    unfold foundB at hf
    rw [Bool.and_eq_true, decide_eq_true_eq, decide_eq_true_eq] at hf
    exact ⟨lo, hf.1, hf.2, rfl⟩
  have hfit : allFit cs mk cs.length := by
    intro k hk
    obtain ⟨t, K, V, K', V', _, r1, _, _, r4⟩ := hat k hk
    have hS := run_st r1
    unfold fitsB
    show (if (rd_T70 cs (k : Nat)).f2.f0 = 1 then (mk (rd_T70 cs (k : Nat)).f2.f1).isSome else if (rd_T70 cs (k : Nat)).f2.f0 = 2 then !(rd_T70 cs (k : Nat)).f3.f0 || decide (givenV cs mk (rd_T70 cs (k : Nat)).f2.f1 = some (rd_T70 cs (k : Nat)).f3.f1) else decide (snapB cs mk (rd_T70 cs (k : Nat)).f3.f2 (rd_T70 cs (k : Nat)).f3.f3 (rd_T70 cs (k : Nat)).f3.f2.length)) = true
    unfold DoIs at r4
    split at r4
    · rename_i ho
      rw [if_pos ho]
      obtain ⟨lo, hp, r⟩ := r4
      split at r
      · rename_i hf
        have := hgive hS (hfound (V := V) hf)
        obtain ⟨j, hj, _⟩ := given_some.1 this
        rw [hj]
        rfl
      · rw [(hM _ k).2 ⟨hk, ho, by rw [r.2.2], rfl⟩]
        rfl
    · rename_i ho
      rw [if_neg ho]
      split at r4
      · rename_i ho2
        rw [if_pos ho2]
        obtain ⟨lo, hp, _, _, r⟩ := r4
        split at r
        · rename_i hf
          rw [r, decide_eq_true (hgive hS (hfound (V := V) hf))]
          simp
        · rw [r]
          rfl
      · rename_i ho2
        rw [if_neg ho2]
        obtain ⟨_, _, r⟩ := r4
        rw [r]
        exact decide_eq_true fun j hj => hgive hS ⟨j, hj, rfl, rfl⟩
  have hmade : madeB cs = some mk := by
    unfold madeB
    rw [hm, Option.bind_some, if_pos hfit]
  refine ⟨mk, hmade, hl, h2, h1, fun t k ht j hj he => ?_⟩
  have hMM := made_of hmade
  have hk : k < cs.length := h1 k (List.mem_of_getElem? ht)
  obtain ⟨s, _, hs⟩ := mem_place (hall j hj)
  obtain ⟨hne, he⟩ := edge_iff.1 he
  rcases Nat.lt_trichotomy s t with a | a | a
  · exact take_at hs a
  · subst a
    rw [hs] at ht
    exact absurd (Option.some.inj ht) hne
  · exfalso
    obtain ⟨K, V, K', V', r1, _, r3, r4⟩ := h3 s j hs
    obtain ⟨L, U, L', U', q1, q2, q3, q4⟩ := h3 t k ht
    have hS := run_st r1
    have hT := run_st q1
    have hks : k ∈ is.take s := take_at ht a
    have hjt : j ∉ is.take t := fun hm => by
      obtain ⟨u, u1, hu⟩ := mem_place hm
      rw [List.getElem?_take] at hu
      split at hu
      · rename_i hut
        have := nodup_idx h2 hu hs
        omega
      · cases hu
    rcases he with e | e | e
    · exact r3 k hks e
    · obtain ⟨e1, e2⟩ := (saw_iff hMM hj).1 e
      have hx : (rd_T70 cs (j : Nat)).f2.f1 ∈ L := by
        unfold sawTail at e2
        unfold DoIs at q4
        rcases op_kind (hc.op k hk) with o | o | o
        · rw [if_neg (by omega), if_pos o, Bool.and_eq_true, decide_eq_true_eq] at e2
          rw [if_pos o] at q4
          obtain ⟨lo, hp, r⟩ := q4
          split at r
          · rename_i hf
            rw [← e2.1]
            exact (found_iff hT.rise hp).1 hf
          · rw [r.2.2] at e2
            cases e2.2
        · rw [if_neg (by omega), if_neg (by omega), Bool.and_eq_true, decide_eq_true_eq] at e2
          rw [if_neg (by omega), if_pos o] at q4
          obtain ⟨lo, hp, _, _, r⟩ := q4
          split at r
          · rename_i hf
            rw [← e2.1]
            exact (found_iff hT.rise hp).1 hf
          · rw [r] at e2
            cases e2.2
        · rw [if_pos o] at e2
          rw [if_neg (by omega), if_neg (by omega)] at q4
          rw [q4.2.2] at e2
          exact idx_isSome.1 e2
      obtain ⟨i, i1, i2⟩ := (hT.mem _).1 hx
      have := hone i j _ (h1 i (List.mem_of_mem_take i1)) hj i2 e1
      rw [this] at i1
      exact hjt i1
    · obtain ⟨e1, e2⟩ := (missed_iff hMM hk).1 e
      have hx : (rd_T70 cs (k : Nat)).f2.f1 ∈ K := (hS.mem _).2 ⟨k, hks, e1⟩
      unfold missedTail at e2
      unfold DoIs at r4
      rcases op_kind (hc.op j hj) with o | o | o
      · rw [if_neg (by omega), if_neg (by omega)] at e2
        cases e2
      · rw [if_neg (by omega), if_pos o, Bool.and_eq_true, decide_eq_true_eq] at e2
        rw [if_neg (by omega), if_pos o] at r4
        obtain ⟨lo, hp, _, _, r⟩ := r4
        rw [if_pos ((found_iff hS.rise hp).2 (by rw [e2.1]; exact hx))] at r
        rw [r] at e2
        cases e2.2
      · rw [if_pos o] at e2
        rw [if_neg (by omega), if_neg (by omega)] at r4
        rw [r4.2.2] at e2
        rw [idx_isSome.2 hx] at e2
        cases e2
theorem run_of_ext {cs : List S70} (hc : CsOk cs) {mk : Mk} (hm : madeB cs = some mk) {is : List Nat} (h : LinExt cs mk is) : ∃ K V, Run cs is K V := by
  have hM := made_of hm
  have key : ∀ t, t ≤ is.length → ∃ K V, Run cs (is.take t) K V := by
    intro t
    induction t with
    | zero => intro _; exact ⟨[], [], .nil⟩
    | succ t ih =>
      intro ht
      obtain ⟨K, V, hr⟩ := ih (by omega)
      have hk := List.getElem?_eq_getElem (show t < is.length by omega)
      rw [List.take_add_one, hk]
      refine run_step hc hM hr (fun j hj => h.lt j (List.mem_of_mem_take hj)) (fun j hj => ?_) (h.lt _ (List.getElem_mem _)) (fun hm2 => ?_) (h.down t _ hk)
      · obtain ⟨u, u1, hu⟩ := mem_place hj
        rw [List.getElem?_take] at hu
        split at hu
        · rename_i hut
          intro i hi he
          have := h.down u j hu i hi he
          obtain ⟨a, h1, h2⟩ := mem_place this
          rw [List.length_take] at h1
          rw [List.getElem?_take, if_pos (by omega)] at h2
          exact take_at h2 (by omega)
        · cases hu
      · obtain ⟨u, u1, hu⟩ := mem_place hm2
        rw [List.getElem?_take] at hu
        split at hu
        · rename_i hut
          have := nodup_idx h.nodup hu hk
          omega
        · cases hu
  obtain ⟨K, V, hr⟩ := key is.length (Nat.le_refl _)
  rw [List.take_length] at hr
  exact ⟨K, V, hr⟩
/-! ### played is just this -/
theorem cl_inj {cs : List S70} (hc : CsOk cs) {i j : Nat} (hi : i < cs.length) (hj : j < cs.length) (h : (rd_T70 cs (i : Nat)).f0 = (rd_T70 cs (j : Nat)).f0) : i = j := by
  have h : (rd_T70 cs (i : Nat)).f0 = (rd_T70 cs (j : Nat)).f0 := h
  rcases Nat.lt_trichotomy i j with a | a | a
  · have := hc.rise i j a hj; omega
  · exact a
  · have := hc.rise j i a hi; omega
theorem atK_some {cs : List S70} (hc : CsOk cs) {x : Int} {k : Nat} (hk : k < cs.length) (hx : (rd_T70 cs (k : Nat)).f0 = x) : ∀ n, k < n → n ≤ cs.length → atK cs x n = some k := by
  intro n
  induction n with
  | zero => intro h; omega
  | succ n ih =>
    intro h1 h2
    unfold atK
    split
    · rename_i h
      rw [cl_inj hc (show n < cs.length by omega) hk (h.trans hx.symm)]
    · rename_i h
      rcases Nat.lt_or_ge k n with a | a
      · exact ih a (by omega)
      · obtain rfl : k = n := by omega
        exact absurd hx h
theorem atK_val {cs : List S70} {x : Int} {k : Nat} : ∀ {n : Nat}, atK cs x n = some k → (rd_T70 cs (k : Nat)).f0 = x := by
  intro n
  induction n with
  | zero => intro h; cases h
  | succ n ih =>
    intro h
    unfold atK at h
    split at h
    · rename_i hh
      cases h
      exact hh
    · exact ih h
theorem rd_mapcl {cs : List S70} {is : List Nat} {j : Nat} {k : Nat} (h : is[j]? = some k) : rd_T70 (is.map (fun i : Nat => rd_T70 cs (i : Nat))) (j : Nat) = rd_T70 cs (k : Nat) := by
  unfold rd_T70
  rw [Int.toNat_natCast, List.getD_eq_getElem?_getD, List.getElem?_map, h]
  rfl
theorem reach_run {cs : List S70} {os : List Int} {i : Nat} {bef : List S70} {K : List Int} {V : List ByteArray} (h : Reach cs os i bef K V) : i ≤ os.length → ∃ is, Run cs is K V ∧ is.length = i ∧ bef = is.map (fun i : Nat => rd_T70 cs (i : Nat)) ∧ os.take i = froms cs is := by
  induction h with
  | zero => intro _; exact ⟨[], .nil, rfl, rfl, rfl⟩
  | @step i bef K V k K' V' r h0 hk hcl hd hr ih =>
    intro hi
    obtain ⟨is, i1, i2, i3, i4⟩ := ih (by omega)
    subst i3
    have hkl := atK_lt hk
    have hkv := atK_val hk
    have hmem : ∀ j ∈ is, ∃ t, t < (is.map (fun i : Nat => rd_T70 cs (i : Nat))).length ∧ rd_T70 (is.map (fun i : Nat => rd_T70 cs (i : Nat))) (t : Nat) = rd_T70 cs (j : Nat) := fun j hj => by
      obtain ⟨t, t1, t2⟩ := mem_place hj
      exact ⟨t, by simpa using t1, rd_mapcl t2⟩
    subst hr
    refine ⟨is ++ [k], .snoc i1 hkl (fun hm => ?_) (fun j hj => ?_) hd, by simp [i2], by simp, ?_⟩
    · obtain ⟨t, t1, t2⟩ := hmem k hm
      have := (hcl t t1).1
      rw [t2] at this
      exact this hkv
    · obtain ⟨t, t1, t2⟩ := hmem j hj
      have := (hcl t t1).2
      rw [t2] at this
      exact this
    · rw [List.take_add_one, i4, List.getElem?_eq_getElem (show i < os.length by omega)]
      unfold froms
      rw [List.map_append]
      show _ ++ [os[i]] = _ ++ [(rd_T70 cs (k : Nat)).f0]
      rw [hkv, List.getD_eq_getElem?_getD, List.getElem?_eq_getElem (show i < os.length by omega)]
      rfl
theorem run_reach {cs : List S70} (hc : CsOk cs) {is : List Nat} {K : List Int} {V : List ByteArray} (h : Run cs is K V) : ∀ os : List Int, os.take is.length = froms cs is → is.length ≤ os.length → Reach cs os is.length (is.map (fun i : Nat => rd_T70 cs (i : Nat))) K V := by
  induction h with
  | nil => intro os _ _; exact .zero
  | @snoc is K V k K' V' hr hk hn hcl hd ih =>
    intro os ho hl
    rw [List.length_append, List.length_singleton] at ho hl ⊢
    have hin := (run_take hr).1
    unfold froms at ho
    rw [List.map_append, List.take_add_one, List.getElem?_eq_getElem (show is.length < os.length by omega)] at ho
    have hlen : (os.take is.length).length = (is.map fun i : Nat => (rd_T70 cs i).f0).length := by
      rw [List.length_take, List.length_map, Nat.min_eq_left (by omega)]
    obtain ⟨a, b⟩ := List.append_inj ho hlen
    have hx : (rd_T70 cs (k : Nat)).f0 = os.getD is.length 0 := by
      rw [List.getD_eq_getElem?_getD, List.getElem?_eq_getElem (show is.length < os.length by omega)]
      have b2 : [os[is.length]] = [(rd_T70 cs (k : Nat)).f0] := b
      exact (List.cons.inj b2).1.symm
    rw [List.map_append]
    refine .step (ih os a (by omega)) (atK_some hc hk hx cs.length hk (Nat.le_refl _)) (fun j hj => ?_) hd rfl
    rw [List.length_map] at hj
    obtain ⟨m, hm⟩ : ∃ m, is[j]? = some m := ⟨_, List.getElem?_eq_getElem hj⟩
    have hmm := List.mem_of_getElem? hm
    rw [rd_mapcl hm]
    refine ⟨fun e => hn ?_, hcl m hmm⟩
    rw [← cl_inj hc (hin m hmm) hk (e.trans hx.symm)]
    exact hmm
theorem played_iff {cs : List S70} (hc : CsOk cs) (os : List Int) : Played cs os ↔ ∃ is K V, Run cs is K V ∧ is.length = cs.length ∧ os = froms cs is := by
  constructor
  · rintro ⟨h1, bef, K, V, h⟩
    obtain ⟨is, i1, i2, _, i4⟩ := reach_run h (Nat.le_refl _)
    rw [List.take_length] at i4
    exact ⟨is, K, V, i1, by omega, i4⟩
  · rintro ⟨is, K, V, h1, h2, rfl⟩
    have hl : (froms cs is).length = is.length := by unfold froms; simp
    refine ⟨by omega, is.map (fun i : Nat => rd_T70 cs (i : Nat)), K, V, ?_⟩
    rw [hl]
    exact run_reach hc h1 _ (by rw [← hl, List.take_length]) (by omega)
structure Avail (cs : List S70) (mk : Mk) (D : List Nat) (i : Nat) : Prop where
  lt : i < cs.length
  new : i ∉ D
  down : Down cs mk D i
theorem edge_ne {cs : List S70} {mk : Mk} {k i : Nat} (h : edgeB cs mk k i = true) : k ≠ i := (edge_iff.1 h).1
theorem aheadTo_map (cs : List S70) (mk : Mk) (n i : Nat) : ∀ (m : Nat) (h : m ≤ n), (aheadTo cs mk n i m h).map (·.1) = (List.range m).filter fun k => edgeB cs mk k i := by
  intro m
  induction m with
  | zero => intro h; rfl
  | succ m ih =>
    intro h
    unfold aheadTo
    rw [List.map_append, ih, List.range_succ, List.filter_append]
    congr 1
    cases q : edgeB cs mk m i <;> simp [q]
theorem kputs_eq (i : Nat) {n : Nat} (st : KS) (l : List (Nth n)) : kputs i st l = (l.map (·.1)).foldl (kput i) st := by unfold kputs; rw [List.foldl_map]
theorem getD_set {α : Type} (l : List α) (i : Nat) (x d : α) (hi : i < l.length) (m : Nat) : (l.set i x).getD m d = if m = i then x else l.getD m d := by
  rw [List.getD_eq_getElem?_getD, List.getD_eq_getElem?_getD, List.getElem?_set]
  split
  · rename_i h
    subst h
    rw [if_pos rfl]
    rfl
  · rename_i h
    rw [if_neg (fun q => h q.symm)]
theorem wrap_id {x : Int} (h0 : -1000 ≤ x) (h1 : x ≤ 1000) : wrap64 x = x := by unfold wrap64; omega
theorem kput_len (i : Nat) : ∀ (l : List Nat) (st : KS), (l.foldl (kput i) st).1.length = st.1.length ∧ (l.foldl (kput i) st).2.length = st.2.length
  | [], st => ⟨rfl, rfl⟩
  | k :: l, st => by
    rw [List.foldl_cons]
    have := kput_len i l (kput i st k)
    unfold kput at this ⊢
    simpa using this
theorem kput_one (i : Nat) : ∀ (l : List Nat) (st : KS), i < st.1.length → 0 ≤ st.1.getD i 0 → st.1.getD i 0 + l.length ≤ 200 → ∀ m, (l.foldl (kput i) st).1.getD m 0 = if m = i then st.1.getD i 0 + l.length else st.1.getD m 0
  | [], st, hi, h0, h1, m => by
    simp only [List.foldl_nil, List.length_nil]
    split
    · rename_i h; subst h; simp
    · rfl
  | k :: l, st, hi, h0, h1, m => by
    rw [List.foldl_cons]
    rw [List.length_cons] at h1
    have hw : wrap64 (st.1.getD i 0 + 1) = st.1.getD i 0 + 1 := wrap_id (by omega) (by omega)
    have e : ∀ m, (kput i st k).1.getD m 0 = if m = i then st.1.getD i 0 + 1 else st.1.getD m 0 := fun m => by
      unfold kput
      rw [hw]
      exact getD_set st.1 i _ 0 hi m
    have ei := e i
    rw [if_pos rfl] at ei
    rw [kput_one i l (kput i st k) (by unfold kput; simpa using hi) (by rw [ei]; omega) (by rw [ei]; omega) m, ei, e m, List.length_cons]
    split
    · omega
    · rfl
theorem kput_two (i : Nat) : ∀ (l : List Nat) (st : KS), l.Nodup → (∀ k ∈ l, k < st.2.length) → ∀ m, (l.foldl (kput i) st).2.getD m [] = if m ∈ l then st.2.getD m [] ++ [(i : Int)] else st.2.getD m []
  | [], st, _, _, m => by rw [if_neg (by simp)]; rfl
  | k :: l, st, hn, hl, m => by
    rw [List.foldl_cons]
    obtain ⟨n1, n2⟩ := List.nodup_cons.1 hn
    have e : ∀ m, (kput i st k).2.getD m [] = if m = k then st.2.getD k [] ++ [(i : Int)] else st.2.getD m [] := fun m => by
      unfold kput
      exact getD_set st.2 k _ [] (hl k (by simp)) m
    rw [kput_two i l (kput i st k) n2 (fun j hj => by unfold kput; simpa using hl j (by simp [hj])) m, e m]
    by_cases h : m = k
    · subst h
      rw [if_neg n1, if_pos rfl, if_pos (by simp)]
    · rw [if_neg h]
      by_cases g : m ∈ l
      · rw [if_pos g, if_pos (by simp [g])]
      · rw [if_neg g, if_neg (by simp [h, g])]
def preds (cs : List S70) (mk : Mk) (m : Nat) : List Nat := (List.range cs.length).filter fun k => edgeB cs mk k m
def succs (cs : List S70) (mk : Mk) (k i : Nat) : List Nat := (List.range i).filter fun m => edgeB cs mk k m
theorem preds_len (cs : List S70) (mk : Mk) (m : Nat) : (preds cs mk m).length ≤ cs.length := by
  unfold preds
  have := List.length_filter_le (fun k => edgeB cs mk k m) (List.range cs.length)
  simpa using this
theorem pst_at {cs : List S70} (hn : cs.length ≤ 64) (mk : Mk) : ∀ i, i ≤ cs.length → (pst cs mk i).1.length = cs.length ∧ (pst cs mk i).2.length = cs.length ∧
    (∀ m, m < cs.length → (pst cs mk i).1.getD m 0 = if m < i then ((preds cs mk m).length : Int) else 0) ∧ ∀ k, k < cs.length → (pst cs mk i).2.getD k [] = (succs cs mk k i).map fun x : Nat => (x : Int) := by
  intro i
  induction i with
  | zero =>
    intro _
    refine ⟨by simp [pst], by simp [pst], fun m hm => ?_, fun k hk => ?_⟩
    · rw [if_neg (Nat.not_lt_zero _)]
      simp [pst, List.getD_eq_getElem?_getD, hm]
    · simp [pst, List.getD_eq_getElem?_getD, hk, succs]
  | succ i ih =>
    intro hi
    obtain ⟨a1, a2, a3, a4⟩ := ih (by omega)
    have hp : pst cs mk (i + 1) = (preds cs mk i).foldl (kput i) (pst cs mk i) := by
      show kputs i (pst cs mk i) (aheadTo cs mk cs.length i cs.length (Nat.le_refl _)) = _
      rw [kputs_eq, aheadTo_map]
      rfl
    have hpl := preds_len cs mk i
    have hz : (pst cs mk i).1.getD i 0 = 0 := by rw [a3 i (by omega), if_neg (Nat.lt_irrefl _)]
    obtain ⟨b1, b2⟩ := kput_len i (preds cs mk i) (pst cs mk i)
    have c1 := kput_one i (preds cs mk i) (pst cs mk i) (by omega) (by omega) (by omega)
    have c2 := kput_two i (preds cs mk i) (pst cs mk i) (List.Pairwise.filter _ List.nodup_range) fun k hk => by
      unfold preds at hk
      have := List.mem_range.1 (List.mem_filter.1 hk).1
      omega
    rw [hp]
    refine ⟨by omega, by omega, fun m hm => ?_, fun k hk => ?_⟩
    · rw [c1 m]
      split
      · rename_i h
        subst h
        rw [hz, if_pos (by omega)]
        omega
      · rename_i h
        rw [a3 m hm]
        by_cases q : m < i
        · rw [if_pos q, if_pos (by omega)]
        · rw [if_neg q, if_neg (by omega)]
    · rw [c2 k, a4 k hk]
      have hm : k ∈ preds cs mk i ↔ edgeB cs mk k i = true := by unfold preds; simp [List.mem_filter, hk]
      unfold succs
      rw [List.range_succ, List.filter_append, List.map_append]
      by_cases q : edgeB cs mk k i = true
      · rw [if_pos (hm.2 q)]
        simp [q]
      · rw [if_neg (fun h => q (hm.1 h))]
        simp [q]
/-! ### the second loop -/
def cntO (cs : List S70) (mk : Mk) (out : List Nat) (m : Nat) : Nat := ((List.range cs.length).filter fun j => edgeB cs mk j m && decide (j ∉ out)).length
theorem cnt_zero {cs : List S70} {mk : Mk} {out : List Nat} {m : Nat} : cntO cs mk out m = 0 ↔ Down cs mk out m := by
  unfold cntO Down
  rw [List.length_eq_zero_iff, List.filter_eq_nil_iff]
  constructor
  · intro h j hj he
    have := h j (List.mem_range.2 hj)
    rw [he, Bool.true_and, decide_eq_true_eq] at this
    exact Classical.byContradiction this
  · intro h j hj he
    rw [Bool.and_eq_true, decide_eq_true_eq] at he
    exact he.2 (h j (List.mem_range.1 hj) he.1)
theorem filter_less {l : List Nat} (p : Nat → Bool) (i : Nat) : l.Nodup → i ∈ l → (l.filter p).length = (l.filter fun j => p j && decide (j ≠ i)).length + if p i = true then 1 else 0 := by
  induction l with
  | nil => intro _ h; cases h
  | cons a l ih =>
    intro hn hi
    obtain ⟨n1, n2⟩ := List.nodup_cons.1 hn
    by_cases h : a = i
    · subst h
      have : (l.filter fun j => p j && decide (j ≠ a)) = l.filter p := List.filter_congr fun j hj => by
        have : j ≠ a := fun e => n1 (by rw [← e]; exact hj)
        simp [this]
      rw [List.filter_cons, List.filter_cons, this]
      cases p a <;> simp
    · have := ih n2 (by rcases List.mem_cons.1 hi with q | q; exact absurd q.symm h; exact q)
      rw [List.filter_cons, List.filter_cons]
      cases q : p a
      · simpa [q] using this
      · simp only [Bool.true_and, decide_eq_true (show a ≠ i from h), if_true, List.length_cons]
        omega
theorem cnt_put {cs : List S70} {mk : Mk} {out : List Nat} {i m : Nat} (hi : i < cs.length) (hn : i ∉ out) : cntO cs mk out m = cntO cs mk (out ++ [i]) m + if edgeB cs mk i m = true then 1 else 0 := by
  unfold cntO
  rw [filter_less (fun j => edgeB cs mk j m && decide (j ∉ out)) i List.nodup_range (List.mem_range.2 hi)]
  congr 1
  · congr 1
    refine List.filter_congr fun j _ => ?_
    rw [Bool.and_assoc]
    congr 1
    rw [← Bool.decide_and]
    exact decide_eq_decide.2 ⟨fun ⟨a, b⟩ => by simp [a, b], fun h => by simpa using h⟩
  · rw [decide_eq_true hn, Bool.and_true]
theorem dec_at : ∀ (l : List Nat) (ws : List Int), l.Nodup → (∀ k ∈ l, k < ws.length) → (∀ m ∈ l, -1 ≤ ws.getD m 0 ∧ ws.getD m 0 ≤ 200) → ∀ m, ((l.map fun x : Nat => (x : Int)).foldl dec1 ws).getD m 0 = if m ∈ l then ws.getD m 0 - 1 else ws.getD m 0 := by
  intro l
  induction l with
  | nil => intro ws _ _ _ m; rw [if_neg (by simp)]; rfl
  | cons k l ih =>
    intro ws hn hl hb m
    obtain ⟨n1, n2⟩ := List.nodup_cons.1 hn
    rw [List.map_cons, List.foldl_cons]
    have hk := hb k (by simp)
    have hw : wrap64 (ws.getD k 0 - 1) = ws.getD k 0 - 1 := wrap_id (by omega) (by omega)
    have e : dec1 ws (k : Int) = ws.set k (ws.getD k 0 - 1) := by
      unfold dec1
      rw [Int.toNat_natCast, hw]
    have e2 : ∀ m, (ws.set k (ws.getD k 0 - 1)).getD m 0 = if m = k then ws.getD k 0 - 1 else ws.getD m 0 := getD_set ws k _ 0 (hl k (by simp))
    rw [e, ih _ n2 (fun j hj => by simpa using hl j (by simp [hj])) (fun j hj => by
      rw [e2 j, if_neg (fun q => n1 (by rw [← q]; exact hj))]
      exact hb j (by simp [hj])) m, e2 m]
    by_cases h : m = k
    · subst h
      rw [if_neg n1, if_pos rfl, if_pos (by simp)]
    · rw [if_neg h]
      by_cases g : m ∈ l
      · rw [if_pos g, if_pos (by simp [g])]
      · rw [if_neg g, if_neg (by simp [h, g])]
structure Least (cs : List S70) (mk : Mk) (out : List Nat) : Prop where
  nodup : out.Nodup
  lt : ∀ j ∈ out, j < cs.length
  next : ∀ t k, out[t]? = some k → Avail cs mk (out.take t) k ∧ ∀ i, i < k → ¬ Avail cs mk (out.take t) i
theorem Least.nil (cs : List S70) (mk : Mk) : Least cs mk [] := ⟨List.nodup_nil, (fun j h => by cases h), (fun t k h => by cases h)⟩
theorem snoc_at {l : List Nat} {i t k : Nat} (h : (l ++ [i])[t]? = some k) : (t < l.length ∧ l[t]? = some k) ∨ (t = l.length ∧ k = i) := by
  rcases Nat.lt_or_ge t l.length with a | a
  · rw [List.getElem?_append_left a] at h
    exact .inl ⟨a, h⟩
  · rw [List.getElem?_append_right a] at h
    have ht0 : t - l.length = 0 := by
      rcases Nat.eq_zero_or_pos (t - l.length) with q | q
      · exact q
      · rw [List.getElem?_eq_none (by simp; omega)] at h; cases h
    rw [ht0] at h
    exact .inr ⟨by omega, (Option.some.inj h).symm⟩
theorem Least.snoc {cs : List S70} {mk : Mk} {out : List Nat} (h : Least cs mk out) {i : Nat} (hi : Avail cs mk out i) (hl : ∀ j, j < i → ¬ Avail cs mk out j) : Least cs mk (out ++ [i]) := by
  refine ⟨List.nodup_append.2 ⟨h.nodup, by simp, fun a ha b hb => by
    obtain rfl := List.mem_singleton.1 hb
    exact fun e => hi.new (by rw [← e]; exact ha)⟩, fun j hj => ?_, fun t k ht => ?_⟩
  · rcases List.mem_append.1 hj with q | q
    · exact h.lt j q
    · obtain rfl := List.mem_singleton.1 q; exact hi.lt
  · rcases snoc_at ht with ⟨a, b⟩ | ⟨rfl, rfl⟩
    · rw [List.take_append_of_le_length (by omega)]
      exact h.next t k b
    · rw [List.take_left' rfl]
      exact ⟨hi, hl⟩
theorem Least.down {cs : List S70} {mk : Mk} {out : List Nat} (h : Least cs mk out) : ∀ j ∈ out, Down cs mk out j := by
  intro j hj i hi he
  obtain ⟨t, _, ht⟩ := mem_place hj
  exact List.mem_of_mem_take ((h.next t j ht).1.down i hi he)
theorem Least.ext {cs : List S70} {mk : Mk} {out : List Nat} (h : Least cs mk out) (hl : out.length = cs.length) : LinExt cs mk out :=
  ⟨hl, h.nodup, h.lt, fun t k ht => (h.next t k ht).1.down⟩
theorem Least.one {cs : List S70} {mk : Mk} {a b : List Nat} (ha : Least cs mk a) (hb : Least cs mk b) (hl : a.length = b.length) : a = b := by
  have key : ∀ t, t ≤ a.length → a.take t = b.take t := by
    intro t
    induction t with
    | zero => intro _; rfl
    | succ t ih =>
      intro ht
      have e := ih (by omega)
      have ka := List.getElem?_eq_getElem (show t < a.length by omega)
      have kb := List.getElem?_eq_getElem (show t < b.length by omega)
      have na := ha.next t _ ka
      have nb := hb.next t _ kb
      rw [← e] at nb
      have : a[t] = b[t] := by
        rcases Nat.lt_trichotomy a[t] b[t] with q | q | q
        · exact absurd na.1 (nb.2 _ q)
        · exact q
        · exact absurd nb.1 (na.2 _ q)
      rw [List.take_add_one, List.take_add_one, e, ka, kb, this]
  have := key a.length (Nat.le_refl _)
  rw [List.take_length, hl, List.take_length] at this
  exact this
structure KI (cs : List S70) (mk : Mk) (out : List Nat) (ws : List Int) : Prop where
  least : Least cs mk out
  len : ws.length = cs.length
  at_ : ∀ m, m < cs.length → ws.getD m 0 = if m ∈ out then -1 else (cntO cs mk out m : Int)
theorem cnt_le (cs : List S70) (mk : Mk) (out : List Nat) (m : Nat) : cntO cs mk out m ≤ cs.length := by
  unfold cntO
  have := List.length_filter_le (fun j => edgeB cs mk j m && decide (j ∉ out)) (List.range cs.length)
  simpa using this
theorem KI.avail {cs : List S70} {mk : Mk} {out : List Nat} {ws : List Int} (h : KI cs mk out ws) {m : Nat} (hm : m < cs.length) : ws.getD m 0 = 0 ↔ Avail cs mk out m := by
  rw [h.at_ m hm]
  split
  · rename_i q
    exact ⟨fun e => by omega, fun e => absurd q e.new⟩
  · rename_i q
    exact ⟨fun e => ⟨hm, q, cnt_zero.1 (by omega)⟩, fun e => by rw [cnt_zero.2 e.down]; rfl⟩
theorem ki_zero {cs : List S70} (hn : cs.length ≤ 64) (mk : Mk) : KI cs mk [] (pst cs mk cs.length).1 := by
  obtain ⟨a1, _, a3, _⟩ := pst_at hn mk cs.length (Nat.le_refl _)
  refine ⟨Least.nil cs mk, a1, fun m hm => ?_⟩
  rw [a3 m hm, if_pos hm, if_neg (by simp)]
  unfold preds cntO
  simp
theorem ki_step {cs : List S70} (hn : cs.length ≤ 64) {mk : Mk} {out : List Nat} {ws : List Int} (h : KI cs mk out ws) {i : Nat} (hi : idx ws 0 = some i) :
    KI cs mk (out ++ [i]) (((pst cs mk cs.length).2.getD i []).foldl dec1 (ws.set i (-1))) := by
  obtain ⟨i1, i2, i3⟩ := idx_some hi
  have hlt : i < cs.length := by rw [← h.len]; exact i1
  have hav := (h.avail hlt).1 i2
  have hls : ∀ j, j < i → ¬ Avail cs mk out j := fun j hj q => i3 j hj ((h.avail (by omega)).2 q)
  obtain ⟨_, _, _, a4⟩ := pst_at hn mk cs.length (Nat.le_refl _)
  have hset : ∀ m, (ws.set i (-1)).getD m 0 = if m = i then -1 else ws.getD m 0 := getD_set ws i _ 0 i1
  have hws : ∀ m, -1 ≤ ws.getD m 0 ∧ ws.getD m 0 ≤ 200 := fun m => by
    rcases Nat.lt_or_ge m cs.length with q | q
    · rw [h.at_ m q]
      have := cnt_le cs mk out m
      split <;> omega
    · rw [List.getD_eq_getElem?_getD, List.getElem?_eq_none (by rw [h.len]; exact q)]
      exact ⟨by decide, by decide⟩
  have hdec := dec_at (succs cs mk i cs.length) (ws.set i (-1)) (List.Pairwise.filter _ List.nodup_range) (fun k hk => by
    unfold succs at hk
    have := List.mem_range.1 (List.mem_filter.1 hk).1
    rw [List.length_set, h.len]
    exact this) fun m _ => by
      rw [hset m]
      split
      · exact ⟨by decide, by decide⟩
      · exact hws m
  refine ⟨h.least.snoc hav hls, by rw [dec_len, List.length_set]; exact h.len, fun m hm => ?_⟩
  rw [a4 i hlt, hdec m, hset m]
  have hms : m ∈ succs cs mk i cs.length ↔ edgeB cs mk i m = true := by unfold succs; simp [List.mem_filter, hm]
  by_cases e : m = i
  · subst e
    rw [if_neg (fun q => edge_ne (hms.1 q) rfl), if_pos rfl, if_pos (by simp)]
  · rw [if_neg e, h.at_ m hm]
    by_cases q : m ∈ out
    · have hne : ¬ m ∈ succs cs mk i cs.length := fun s => hav.new (h.least.down m q i hlt (hms.1 s))
      rw [if_neg hne, if_pos q, if_pos (by simp [q])]
    · rw [if_neg q, if_neg (show ¬ m ∈ out ++ [i] by simp [q, e]), cnt_put hlt hav.new]
      by_cases s : edgeB cs mk i m = true
      · rw [if_pos (hms.2 s), if_pos s]
        omega
      · rw [if_neg (fun t => s (hms.1 t)), if_neg s]
        rfl
theorem kat_ki {cs : List S70} (hn : cs.length ≤ 64) {mk : Mk} : ∀ (j : Nat) (st : List Nat × List Int), kat (pst cs mk cs.length).2 (pst cs mk cs.length).1 j = some st → KI cs mk st.1 st.2 := by
  intro j
  induction j with
  | zero => intro st h; cases h; exact ki_zero hn mk
  | succ j ih =>
    intro st h
    obtain ⟨s1, h1, h2⟩ := Option.bind_eq_some_iff.1 h
    have I := ih s1 h1
    unfold kstep at h2
    obtain ⟨i, hi, rfl⟩ := Option.map_eq_some_iff.1 h2
    exact ki_step hn I hi
theorem ord_some {cs : List S70} (hn : cs.length ≤ 64) {mk : Mk} {os : List Nat} (h : ordB cs mk = some os) : Least cs mk os ∧ os.length = cs.length := by
  unfold ordB at h
  obtain ⟨st, h1, rfl⟩ := Option.map_eq_some_iff.1 h
  exact ⟨(kat_ki hn _ st h1).least, (kat_len _ st h1).1⟩
theorem avail_ex {cs : List S70} {mk : Mk} {is : List Nat} (h : LinExt cs mk is) {D : List Nat} (hD : D.length < cs.length) : ∃ i, Avail cs mk D i := by
  have key : ∀ t k : Nat, is[t]? = some k → k ∉ D → ∃ i, Avail cs mk D i := by
    intro t
    induction t using Nat.strongRecOn with
    | ind t ih =>
      intro k hk hn
      by_cases hd : Down cs mk D k
      · exact ⟨k, h.lt k (List.mem_of_getElem? hk), hn, hd⟩
      · have : ∃ j, j < cs.length ∧ edgeB cs mk j k = true ∧ j ∉ D := by
          refine Classical.byContradiction fun hne => hd fun j hj he => Classical.byContradiction fun hm => hne ⟨j, hj, he, hm⟩
        obtain ⟨j, j1, j2, j3⟩ := this
        obtain ⟨s, s1, s2⟩ := mem_place (h.down t k hk j j1 j2)
        rw [List.length_take] at s1
        rw [List.getElem?_take, if_pos (by omega)] at s2
        exact ih s (by omega) j s2 j3
  have : ∃ k, k ∈ is ∧ k ∉ D := by
    refine Classical.byContradiction fun hne => ?_
    have := nodup_len h.nodup fun x hx => Classical.byContradiction fun hm => hne ⟨x, hx, hm⟩
    have := h.len
    omega
  obtain ⟨k, k1, k2⟩ := this
  obtain ⟨t, _, ht⟩ := mem_place k1
  exact key t k ht k2
theorem ord_ex {cs : List S70} (hn : cs.length ≤ 64) {mk : Mk} {is : List Nat} (h : LinExt cs mk is) : ∃ os, ordB cs mk = some os := by
  have key : ∀ j, j ≤ cs.length → ∃ st, kat (pst cs mk cs.length).2 (pst cs mk cs.length).1 j = some st := by
    intro j
    induction j with
    | zero => intro _; exact ⟨_, rfl⟩
    | succ j ih =>
      intro hj
      obtain ⟨st, hst⟩ := ih (by omega)
      have I := kat_ki hn j st hst
      have hlen := (kat_len j st hst).1
      obtain ⟨i, hi⟩ := avail_ex h (D := st.1) (by omega)
      cases q : idx st.2 0 with
      | none =>
        have := idx_none q i (by rw [I.len]; exact hi.lt)
        exact absurd ((I.avail hi.lt).2 hi) this
      | some m =>
        refine ⟨(st.1 ++ [m], ((pst cs mk cs.length).2.getD m []).foldl dec1 (st.2.set m (-1))), ?_⟩
        show (kat _ _ j).bind _ = _
        rw [hst, Option.bind_some]
        unfold kstep
        rw [q]
        rfl
  obtain ⟨st, hst⟩ := key cs.length (Nat.le_refl _)
  exact ⟨st.1, by unfold ordB; rw [hst]; rfl⟩
def toldB (cs : List S70) : Option (List Int) := (madeB cs).bind fun mk => (ordB cs mk).map (froms cs)
theorem told_some {cs : List S70} (hc : CsOk cs) {os : List Int} (h : toldB cs = some os) : Played cs os := by
  unfold toldB at h
  obtain ⟨mk, h1, h2⟩ := Option.bind_eq_some_iff.1 h
  obtain ⟨is, h3, rfl⟩ := Option.map_eq_some_iff.1 h2
  obtain ⟨a, b⟩ := ord_some hc.few h3
  obtain ⟨K, V, hr⟩ := run_of_ext hc h1 (a.ext b)
  exact (played_iff hc _).2 ⟨is, K, V, hr, b, rfl⟩
theorem ordP_told {l0 : List S45} : ordP l0 = (readB l0).map toldB := rfl
def makesB (c : S70) : Bool := decide (c.f2.f0 = 1) && c.f3.f0
def seesB (c : S70) (key : Int) : Bool := if c.f2.f0 = 3 then (idx c.f3.f2 key).isSome else decide (c.f2.f1 = key) && (decide (c.f2.f0 = 1) != c.f3.f0)
def missesB (c : S70) (key : Int) : Bool := if c.f2.f0 = 3 then !(idx c.f3.f2 key).isSome else decide (c.f2.f0 = 2) && (decide (c.f2.f1 = key) && !c.f3.f0)
def aheadB (a b : S70) : Bool := (decide (a.f1 < b.f0) || (makesB a && seesB b a.f2.f1)) || (makesB b && missesB a b.f2.f1)
structure CallIn (w : World) (c : S70) (A7 : Option Addr) (c7 : Nat) : Prop where
  len : c.f3.f2.length ≤ c7
  keys : (Kd.int .i64).C w A7 c.f3.f2.length c.f3.f2
  small : c.f3.f2.length ≤ 9223372036854775806
theorem CallIn.below {w w1 : World} {c : S70} {A7 : Option Addr} {c7 : Nat} (h : CallIn w c A7 c7) (hb : Below w.heap.size w w1) : CallIn w1 c A7 c7 := ⟨h.len, Kd.C_below h.keys hb, h.small⟩
set_option maxRecDepth 100000 in
set_option maxHeartbeats 1000000 in
theorem makes_calls (w : World) (c : S70) (A7 : Option Addr) (c7 : Nat) (A8 : Option Addr) (c8 : Nat) :
    Calls Try.prog 49 #[callV c A7 c7 A8 c8] w fun e w' => e = .returned (.bool (makesB c)) ∧ Below w.heap.size w w' := by
  unfold callV
  have hu := Try.underlying70
  have hu3 := Try.underlying40
  have hu4 := Try.underlying43
  by_cases h1 : c.f2.f0 = 1
  · have hs : makesB c = c.f3.f0 := by unfold makesB; rw [decide_eq_true h1, Bool.true_and]
    rw [hs, h1]
    clear hs h1
    go_enter Try.func49, Try.ntmps49
    go_wp2_with fail
    go_ret
    exact ⟨rfl, below_alloc (Below.refl _ _) _⟩
  · have hs : makesB c = false := by unfold makesB; rw [decide_eq_false h1, Bool.false_and]
    obtain ⟨f1, f2, f3, _⟩ := ne_forms h1
    rw [hs]
    clear hs h1
    go_enter Try.func49, Try.ntmps49
    go_wp2_with fail
    go_ret
    exact ⟨rfl, below_alloc (Below.refl _ _) _⟩
set_option maxRecDepth 100000 in
set_option maxHeartbeats 2000000 in
theorem sees_calls (w : World) (c : S70) (A7 : Option Addr) (c7 : Nat) (A8 : Option Addr) (c8 : Nat) (hk : CallIn w c A7 c7) (key : Int) :
    Calls Try.prog 50 #[callV c A7 c7 A8 c8, .int .i64 key] w fun e w' => e = .returned (.bool (seesB c key)) ∧ Below w.heap.size w w' := by
  unfold callV
  have hu := Try.underlying70
  have hu3 := Try.underlying40
  have hu4 := Try.underlying43
  by_cases h3 : c.f2.f0 = 3
  · have hs : seesB c key = (idx c.f3.f2 key).isSome := by unfold seesB; rw [if_pos h3]
    rw [hs, h3]
    clear hs h3
    have hn : c.f3.f2.length ≤ 9223372036854775806 := hk.small
    have HK := Lib.hid hk
    clear hk
    go_enter Try.func50, Try.ntmps50
    go_wp2_with fail
    obtain ⟨W, hW⟩ : ∃ W, W = w.alloc (.cells #[.int .i64 c.f0, .int .i64 c.f1, .int .i64 3, .int .i64 c.f2.f1, .string c.f2.f2, .bool c.f3.f0, .string c.f3.f1, .slice A7 c.f3.f2.length c7, .slice A8 c.f3.f3.length c8] 70) := ⟨_, rfl⟩
    rw [← hW]
    have hWb : Below w.heap.size w W := by rw [hW]; exact below_alloc (Below.refl _ _) _
    have hbx : W.heap[w.heap.size]? = some (.cells #[.int .i64 c.f0, .int .i64 c.f1, .int .i64 3, .int .i64 c.f2.f1, .string c.f2.f2, .bool c.f3.f0, .string c.f3.f1, .slice A7 c.f3.f2.length c7, .slice A8 c.f3.f3.length c8] 70 (0, 0)) := by rw [hW]; exact new_blk _
    have y7 := blk_cell hbx (i := 7) rfl
    have HW := Lib.hid (And.intro hWb (HK.out.below hWb))
    clear hW hWb hbx
    go_loop [5] (fun s5 => ∃ i : Nat, i ≤ c.f3.f2.length ∧ s5 = .int .i64 i ∧ ∀ j, j < i → c.f3.f2.getD j 0 ≠ key) (fun s5 => c.f3.f2.length - (intOf s5).toNat)
    case atStart => exact ⟨0, Nat.zero_le _, rfl, fun j h => by omega⟩
    case round =>
      obtain ⟨i, hi, rfl, hno⟩ := hrel
      have HN := Lib.hid hno
      clear hno
      by_cases hlt : i < c.f3.f2.length
      · have hlD : decide ((i : Int) < (c.f3.f2.length : Int)) = true := by simp; omega
        obtain ⟨ak, hA, x0⟩ := Kd.at_int (w := W) HW.out.2.keys i (by omega) (by omega)
        subst hA
        obtain ⟨y, hy⟩ : ∃ y, y = rd c.f3.f2 (i : Int) := ⟨_, rfl⟩
        rw [← hy] at x0
        have HY := Lib.hid hy
        clear hy
        simp only [Int.toNat_natCast] at x0
        by_cases hq : y = key
        · have hs : (idx c.f3.f2 key).isSome = true := idx_isSome.2 (by
            rw [← hq, HY.out]
            unfold rd
            rw [Int.toNat_natCast, List.getD_eq_getElem?_getD, List.getElem?_eq_getElem hlt]
            exact List.getElem_mem hlt)
          have hqD : (y == key) = true := beq_iff_eq.2 hq
          have HS := Lib.hid hs
          clear hs hq
          go_wp2_with fail
          go_ret
          exact ⟨by rw [HS.out]; rfl, HW.out.1⟩
        · obtain ⟨g1, g2, g3, _⟩ := ne_forms hq
          go_wp2_with fail
          go_round
          case rel =>
            refine ⟨i + 1, by omega, by go_num, fun j hj => ?_⟩
            rcases Nat.lt_or_ge j i with q | q
            · exact HN.out j q
            · obtain rfl : j = i := by omega
              intro e
              exact hq (HY.out.trans e)
          case measure => simp [intOf]; omega
      · obtain rfl : i = c.f3.f2.length := by omega
        have hs : (idx c.f3.f2 key).isSome = false := by
          cases q : (idx c.f3.f2 key).isSome with
          | false => rfl
          | true =>
            obtain ⟨j, hj, e⟩ := List.getElem_of_mem (idx_isSome.1 q)
            refine absurd ?_ (HN.out j hj)
            rw [List.getD_eq_getElem?_getD, List.getElem?_eq_getElem hj]
            exact e
        have HS := Lib.hid hs
        clear hs
        go_wp2_with fail
        go_ret
        exact ⟨by rw [HS.out]; rfl, HW.out.1⟩
  · have hs : seesB c key = (decide (c.f2.f1 = key) && (decide (c.f2.f0 = 1) != c.f3.f0)) := by unfold seesB; rw [if_neg h3]
    obtain ⟨f1, f2, f3, _⟩ := ne_forms h3
    rw [hs]
    clear hs h3 hk
    by_cases hq : c.f2.f1 = key
    · rw [hq]
      clear hq
      by_cases h1 : c.f2.f0 = 1
      · rw [h1]
        clear h1 f1 f2 f3
        go_enter Try.func50, Try.ntmps50
        go_wp2_with fail
        go_ret
        exact ⟨by cases c.f3.f0 <;> simp, below_alloc (Below.refl _ _) _⟩
      · obtain ⟨e1, e2, e3, _⟩ := ne_forms h1
        go_enter Try.func50, Try.ntmps50
        go_wp2_with fail
        go_ret
        exact ⟨by cases c.f3.f0 <;> simp [h1], below_alloc (Below.refl _ _) _⟩
    · obtain ⟨g1, g2, g3, _⟩ := ne_forms hq
      go_enter Try.func50, Try.ntmps50
      go_wp2_with fail
      go_ret
      exact ⟨by simp [g3], below_alloc (Below.refl _ _) _⟩
set_option maxRecDepth 100000 in
set_option maxHeartbeats 2000000 in
theorem misses_calls (w : World) (c : S70) (A7 : Option Addr) (c7 : Nat) (A8 : Option Addr) (c8 : Nat) (hk : CallIn w c A7 c7) (key : Int) :
    Calls Try.prog 51 #[callV c A7 c7 A8 c8, .int .i64 key] w fun e w' => e = .returned (.bool (missesB c key)) ∧ Below w.heap.size w w' := by
  have HSE := Lib.hid (sees_calls (w.alloc (.cells #[.int .i64 c.f0, .int .i64 c.f1, .int .i64 c.f2.f0, .int .i64 c.f2.f1, .string c.f2.f2, .bool c.f3.f0, .string c.f3.f1, .slice A7 c.f3.f2.length c7, .slice A8 c.f3.f3.length c8] 70)) c A7 c7 A8 c8 (hk.below (below_alloc (Below.refl _ _) _)) key)
  unfold callV at HSE ⊢
  have hu := Try.underlying70
  have hu3 := Try.underlying40
  have hu4 := Try.underlying43
  clear hk
  by_cases h3 : c.f2.f0 = 3
  · have hs : missesB c key = !seesB c key := by unfold missesB seesB; rw [if_pos h3, if_pos h3]
    rw [h3] at HSE ⊢
    rw [hs]
    clear hs h3
    go_enter Try.func51, Try.ntmps51
    go_wp2_with fail
    refine HSE.out.mono ?_
    rintro e w1 ⟨rfl, hb⟩
    have HB := Lib.hid (below_step (below_alloc (Below.refl _ _) _) hb)
    clear hb
    go_wp2_with fail
    go_ret
    exact ⟨rfl, HB.out⟩
  · have hs : missesB c key = (decide (c.f2.f0 = 2) && (decide (c.f2.f1 = key) && !c.f3.f0)) := by unfold missesB; rw [if_neg h3]
    obtain ⟨f1, f2, f3, _⟩ := ne_forms h3
    rw [hs]
    clear hs h3 HSE
    by_cases h2 : c.f2.f0 = 2
    · rw [h2]
      clear h2 f1 f2 f3
      by_cases hq : c.f2.f1 = key
      · rw [hq]
        clear hq
        go_enter Try.func51, Try.ntmps51
        go_wp2_with fail
        go_ret
        exact ⟨by simp, below_alloc (Below.refl _ _) _⟩
      · obtain ⟨g1, g2, g3, _⟩ := ne_forms hq
        go_enter Try.func51, Try.ntmps51
        go_wp2_with fail
        go_ret
        exact ⟨by simp [g3], below_alloc (Below.refl _ _) _⟩
    · obtain ⟨e1, e2, e3, _⟩ := ne_forms h2
      go_enter Try.func51, Try.ntmps51
      go_wp2_with fail
      go_ret
      exact ⟨by simp [e3], below_alloc (Below.refl _ _) _⟩
theorem box9 {V : World} {g : Nat} {x0 x1 x2 x3 x4 x5 x6 x7 x8 : Value} {t : TypeId} (h : V.heap[g]? = some (.cells #[x0, x1, x2, x3, x4, x5, x6, x7, x8] t (0, 0))) :
    V.cell? ⟨g, 0, none⟩ = some x0 ∧ V.cell? ⟨g, 1, none⟩ = some x1 ∧ V.cell? ⟨g, 2, none⟩ = some x2 ∧ V.cell? ⟨g, 3, none⟩ = some x3 ∧ V.cell? ⟨g, 4, none⟩ = some x4 ∧ V.cell? ⟨g, 5, none⟩ = some x5 ∧ V.cell? ⟨g, 6, none⟩ = some x6 ∧ V.cell? ⟨g, 7, none⟩ = some x7 ∧ V.cell? ⟨g, 8, none⟩ = some x8 :=
  ⟨blk_cell h rfl, blk_cell h rfl, blk_cell h rfl, blk_cell h rfl, blk_cell h rfl, blk_cell h rfl, blk_cell h rfl, blk_cell h rfl, blk_cell h rfl⟩
set_option maxRecDepth 100000 in
set_option maxHeartbeats 4000000 in
theorem ahead_calls (w : World) (a : S70) (A7 : Option Addr) (c7 : Nat) (A8 : Option Addr) (c8 : Nat) (ha : CallIn w a A7 c7) (b : S70) (B7 : Option Addr) (d7 : Nat) (B8 : Option Addr) (d8 : Nat) (hb : CallIn w b B7 d7) :
    Calls Try.prog 36 #[callV a A7 c7 A8 c8, callV b B7 d7 B8 d8] w fun e w' => e = .returned (.bool (aheadB a b)) ∧ Below w.heap.size w w' := by
  have hu := Try.underlying70
  have hu3 := Try.underlying40
  have hu4 := Try.underlying43
  have HA := Lib.hid ha
  have HBB := Lib.hid hb
  clear ha hb
  have HM := fun (W : World) => makes_calls W a A7 c7 A8 c8
  have HN := fun (W : World) => makes_calls W b B7 d7 B8 d8
  have HS := fun (W : World) (h : Below w.heap.size w W) => sees_calls W b B7 d7 B8 d8 (HBB.out.below h) a.f2.f1
  have HMI := fun (W : World) (h : Below w.heap.size w W) => misses_calls W a A7 c7 A8 c8 (HA.out.below h) b.f2.f1
  unfold callV at HM HN HS HMI ⊢
  have HM := Lib.hid HM
  have HN := Lib.hid HN
  have HS := Lib.hid HS
  have HMI := Lib.hid HMI
  obtain ⟨W, hW⟩ : ∃ W, W = (w.alloc (.cells #[.int .i64 a.f0, .int .i64 a.f1, .int .i64 a.f2.f0, .int .i64 a.f2.f1, .string a.f2.f2, .bool a.f3.f0, .string a.f3.f1, .slice A7 a.f3.f2.length c7, .slice A8 a.f3.f3.length c8] 70)).alloc (.cells #[.int .i64 b.f0, .int .i64 b.f1, .int .i64 b.f2.f0, .int .i64 b.f2.f1, .string b.f2.f2, .bool b.f3.f0, .string b.f3.f1, .slice B7 b.f3.f2.length d7, .slice B8 b.f3.f3.length d8] 70) := ⟨_, rfl⟩
  have hWb : Below w.heap.size w W := by rw [hW]; exact below_alloc (below_alloc (Below.refl _ _) _) _
  have HWB := Lib.hid hWb
  clear hWb
  by_cases h1 : a.f1 < b.f0
  · have hs : aheadB a b = true := by unfold aheadB; rw [decide_eq_true h1]; rfl
    have h1D : decide (a.f1 < b.f0) = true := decide_eq_true h1
    rw [hs]
    clear hs h1
    go_enter Try.func36, Try.ntmps36
    go_wp2_with fail
    go_ret
    exact ⟨rfl, below_alloc (below_alloc (Below.refl _ _) _) _⟩
  · have h1D : decide (a.f1 < b.f0) = false := decide_eq_false h1
    have hs : aheadB a b = ((makesB a && seesB b a.f2.f1) || (makesB b && missesB a b.f2.f1)) := by unfold aheadB; rw [h1D, Bool.false_or]
    have HS0 := Lib.hid hs
    clear hs h1
    go_enter Try.func36, Try.ntmps36
    go_wp2_with fail
    rw [← hW]
    have HBX : Hid (W.heap[w.heap.size]? = some (.cells #[.int .i64 a.f0, .int .i64 a.f1, .int .i64 a.f2.f0, .int .i64 a.f2.f1, .string a.f2.f2, .bool a.f3.f0, .string a.f3.f1, .slice A7 a.f3.f2.length c7, .slice A8 a.f3.f3.length c8] 70 (0, 0)) ∧ W.heap[w.heap.size + 1]? = some (.cells #[.int .i64 b.f0, .int .i64 b.f1, .int .i64 b.f2.f0, .int .i64 b.f2.f1, .string b.f2.f2, .bool b.f3.f0, .string b.f3.f1, .slice B7 b.f3.f2.length d7, .slice B8 b.f3.f3.length d8] 70 (0, 0))) := Lib.hid (by
      rw [hW]
      refine ⟨blk_alloc (new_blk _) _, ?_⟩
      have := new_blk (w := w.alloc (.cells #[.int .i64 a.f0, .int .i64 a.f1, .int .i64 a.f2.f0, .int .i64 a.f2.f1, .string a.f2.f2, .bool a.f3.f0, .string a.f3.f1, .slice A7 a.f3.f2.length c7, .slice A8 a.f3.f3.length c8] 70))
      simpa using this _)
    clear hW
    refine (HM.out _).mono ?_
    rintro e w1 ⟨rfl, hb⟩
    have HB1 := Lib.hid hb
    clear hb
    cases hm : makesB a with
    | true =>
      obtain ⟨a0, a1, a2, a3, a4, a5, a6, a7, a8⟩ := box9 (blk_below HBX.out.1 HB1.out)
      obtain ⟨b0, b1, b2, b3, b4, b5, b6, b7, b8⟩ := box9 (blk_below HBX.out.2 HB1.out)
      have HMt := Lib.hid hm
      clear hm
      go_wp2_with fail
      clear a0 a1 a2 a3 a4 a5 a6 a7 a8 b0 b1 b2 b3 b4 b5 b6 b7 b8
      refine (HS.out _ (HWB.out.trans (HB1.out.mono (below_size HWB.out)))).mono ?_
      rintro e w2 ⟨rfl, hb⟩
      have HB2 := Lib.hid (below_step HB1.out hb)
      clear hb
      cases hs : seesB b a.f2.f1 with
      | true =>
        have HR : Hid (aheadB a b = true) := Lib.hid (by rw [HS0.out, HMt.out, hs]; rfl)
        clear hs
        obtain ⟨a0, a1, a2, a3, a4, a5, a6, a7, a8⟩ := box9 (blk_below HBX.out.1 HB2.out)
        obtain ⟨b0, b1, b2, b3, b4, b5, b6, b7, b8⟩ := box9 (blk_below HBX.out.2 HB2.out)
        go_wp2_with fail
        go_ret
        exact ⟨by rw [HR.out]; rfl, HWB.out.trans (HB2.out.mono (below_size HWB.out))⟩
      | false =>
        have HM1 : Hid ((makesB a && seesB b a.f2.f1) = false) := Lib.hid (by rw [hs, Bool.and_false])
        clear hs
        obtain ⟨a0, a1, a2, a3, a4, a5, a6, a7, a8⟩ := box9 (blk_below HBX.out.1 HB2.out)
        obtain ⟨b0, b1, b2, b3, b4, b5, b6, b7, b8⟩ := box9 (blk_below HBX.out.2 HB2.out)
        go_wp2_with fail
        clear a0 a1 a2 a3 a4 a5 a6 a7 a8 b0 b1 b2 b3 b4 b5 b6 b7 b8
        refine (HN.out _).mono ?_
        rintro e w3 ⟨rfl, hb⟩
        have HB3 := Lib.hid (below_step HB2.out hb)
        clear hb
        cases hn : makesB b with
        | false =>
          have HR : Hid (aheadB a b = false) := Lib.hid (by rw [HS0.out, hn, Bool.false_and, Bool.or_false]; exact HM1.out)
          clear hn
          obtain ⟨a0, a1, a2, a3, a4, a5, a6, a7, a8⟩ := box9 (blk_below HBX.out.1 HB3.out)
          obtain ⟨b0, b1, b2, b3, b4, b5, b6, b7, b8⟩ := box9 (blk_below HBX.out.2 HB3.out)
          go_wp2_with fail
          go_ret
          exact ⟨by rw [HR.out]; rfl, HWB.out.trans (HB3.out.mono (below_size HWB.out))⟩
        | true =>
          have HR : Hid (aheadB a b = missesB a b.f2.f1) := Lib.hid (by rw [HS0.out, hn, Bool.true_and, HM1.out, Bool.false_or])
          clear hn
          obtain ⟨a0, a1, a2, a3, a4, a5, a6, a7, a8⟩ := box9 (blk_below HBX.out.1 HB3.out)
          obtain ⟨b0, b1, b2, b3, b4, b5, b6, b7, b8⟩ := box9 (blk_below HBX.out.2 HB3.out)
          go_wp2_with fail
          clear a0 a1 a2 a3 a4 a5 a6 a7 a8 b0 b1 b2 b3 b4 b5 b6 b7 b8
          refine (HMI.out _ (HWB.out.trans (HB3.out.mono (below_size HWB.out)))).mono ?_
          rintro e w4 ⟨rfl, hb⟩
          have HB4 := Lib.hid (below_step HB3.out hb)
          clear hb
          go_wp2_with fail
          go_ret
          exact ⟨by rw [HR.out]; rfl, HWB.out.trans (HB4.out.mono (below_size HWB.out))⟩
    | false =>
      have HM1 : Hid ((makesB a && seesB b a.f2.f1) = false) := Lib.hid (by rw [hm, Bool.false_and])
      clear hm
      obtain ⟨a0, a1, a2, a3, a4, a5, a6, a7, a8⟩ := box9 (blk_below HBX.out.1 HB1.out)
      obtain ⟨b0, b1, b2, b3, b4, b5, b6, b7, b8⟩ := box9 (blk_below HBX.out.2 HB1.out)
      go_wp2_with fail
      clear a0 a1 a2 a3 a4 a5 a6 a7 a8 b0 b1 b2 b3 b4 b5 b6 b7 b8
      refine (HN.out _).mono ?_
      rintro e w3 ⟨rfl, hb⟩
      have HB3 := Lib.hid (below_step HB1.out hb)
      clear hb
      cases hn : makesB b with
      | false =>
        have HR : Hid (aheadB a b = false) := Lib.hid (by rw [HS0.out, hn, Bool.false_and, Bool.or_false]; exact HM1.out)
        clear hn
        obtain ⟨a0, a1, a2, a3, a4, a5, a6, a7, a8⟩ := box9 (blk_below HBX.out.1 HB3.out)
        obtain ⟨b0, b1, b2, b3, b4, b5, b6, b7, b8⟩ := box9 (blk_below HBX.out.2 HB3.out)
        go_wp2_with fail
        go_ret
        exact ⟨by rw [HR.out]; rfl, HWB.out.trans (HB3.out.mono (below_size HWB.out))⟩
      | true =>
        have HR : Hid (aheadB a b = missesB a b.f2.f1) := Lib.hid (by rw [HS0.out, hn, Bool.true_and, HM1.out, Bool.false_or])
        clear hn
        obtain ⟨a0, a1, a2, a3, a4, a5, a6, a7, a8⟩ := box9 (blk_below HBX.out.1 HB3.out)
        obtain ⟨b0, b1, b2, b3, b4, b5, b6, b7, b8⟩ := box9 (blk_below HBX.out.2 HB3.out)
        go_wp2_with fail
        clear a0 a1 a2 a3 a4 a5 a6 a7 a8 b0 b1 b2 b3 b4 b5 b6 b7 b8
        refine (HMI.out _ (HWB.out.trans (HB3.out.mono (below_size HWB.out)))).mono ?_
        rintro e w4 ⟨rfl, hb⟩
        have HB4 := Lib.hid (below_step HB3.out hb)
        clear hb
        go_wp2_with fail
        go_ret
        exact ⟨by rw [HR.out]; rfl, HWB.out.trans (HB4.out.mono (below_size HWB.out))⟩
structure RAvail (cs : List S70) (D : List Nat) (i : Nat) : Prop where
  lt : i < cs.length
  new : i ∉ D
  free : ∀ k, k < cs.length → k ∉ D → k ≠ i → aheadB (rd_T70 cs (k : Nat)) (rd_T70 cs (i : Nat)) = false
structure RLeast (cs : List S70) (out : List Nat) : Prop where
  nodup : out.Nodup
  lt : ∀ j ∈ out, j < cs.length
  next : ∀ t k, out[t]? = some k → RAvail cs (out.take t) k ∧ ∀ i, i < k → ¬ RAvail cs (out.take t) i
theorem RLeast.nil (cs : List S70) : RLeast cs [] := ⟨List.nodup_nil, (fun j h => by cases h), (fun t k h => by cases h)⟩
theorem RLeast.snoc {cs : List S70} {out : List Nat} (h : RLeast cs out) {i : Nat} (hi : RAvail cs out i) (hl : ∀ j, j < i → ¬ RAvail cs out j) : RLeast cs (out ++ [i]) := by
  refine ⟨List.nodup_append.2 ⟨h.nodup, by simp, fun a ha b hb => by
    obtain rfl := List.mem_singleton.1 hb
    exact fun e => hi.new (by rw [← e]; exact ha)⟩, fun j hj => ?_, fun t k ht => ?_⟩
  · rcases List.mem_append.1 hj with q | q
    · exact h.lt j q
    · obtain rfl := List.mem_singleton.1 q; exact hi.lt
  · rcases snoc_at ht with ⟨a, b⟩ | ⟨rfl, rfl⟩
    · rw [List.take_append_of_le_length (by omega)]
      exact h.next t k b
    · rw [List.take_left' rfl]
      exact ⟨hi, hl⟩
theorem makes_iff (c : S70) : makesB c = true ↔ pubOk c c.f2.f1 := by
  unfold makesB pubOk
  rw [Bool.and_eq_true, decide_eq_true_eq]
  exact ⟨fun ⟨a, b⟩ => ⟨a, b, rfl⟩, fun ⟨a, b, _⟩ => ⟨a, b⟩⟩
theorem sees_eq {c : S70} (ho : opB c.f2 = true) (key : Int) : seesB c key = sawTail c key := by
  unfold seesB sawTail
  rcases op_kind ho with h | h | h
  · rw [if_neg (by omega), if_neg (by omega), if_pos h, decide_eq_true h]
    cases c.f3.f0 <;> simp
  · rw [if_neg (by omega), if_neg (by omega), if_neg (by omega), decide_eq_false (show ¬ c.f2.f0 = 1 by omega)]
    cases c.f3.f0 <;> simp
  · rw [if_pos h, if_pos h]
theorem misses_eq {c : S70} (ho : opB c.f2 = true) (key : Int) : missesB c key = missedTail c key := by
  unfold missesB missedTail
  rcases op_kind ho with h | h | h
  · rw [if_neg (by omega), if_neg (by omega), if_neg (by omega), decide_eq_false (show ¬ c.f2.f0 = 2 by omega)]
    rfl
  · rw [if_neg (by omega), if_neg (by omega), if_pos h, decide_eq_true h, Bool.true_and]
  · rw [if_pos h, if_pos h]
theorem edge_ahead {cs : List S70} (hc : CsOk cs) {mk : Mk} (hm : Made cs mk) {k i : Nat} (hk : k < cs.length) (hi : i < cs.length) : edgeB cs mk k i = true ↔ k ≠ i ∧ aheadB (rd_T70 cs (k : Nat)) (rd_T70 cs (i : Nat)) = true := by
  rw [edge_iff, saw_iff hm hk, missed_iff hm hi]
  unfold aheadB
  rw [Bool.or_eq_true, Bool.or_eq_true, Bool.and_eq_true, Bool.and_eq_true, decide_eq_true_eq, makes_iff, makes_iff, sees_eq (hc.op i hi), misses_eq (hc.op k hk), or_assoc]
theorem avail_iff {cs : List S70} (hc : CsOk cs) {mk : Mk} (hm : Made cs mk) {D : List Nat} {i : Nat} : RAvail cs D i ↔ Avail cs mk D i := by
  constructor
  · intro h
    refine ⟨h.lt, h.new, fun j hj he => Classical.byContradiction fun hn => ?_⟩
    obtain ⟨a, b⟩ := (edge_ahead hc hm hj h.lt).1 he
    rw [h.free j hj hn a] at b
    cases b
  · intro h
    refine ⟨h.lt, h.new, fun k hk hn hne => ?_⟩
    cases q : aheadB (rd_T70 cs (k : Nat)) (rd_T70 cs (i : Nat)) with
    | false => rfl
    | true => exact absurd (h.down k hk ((edge_ahead hc hm hk h.lt).2 ⟨hne, q⟩)) hn
theorem rleast_least {cs : List S70} (hc : CsOk cs) {mk : Mk} (hm : Made cs mk) {out : List Nat} (h : RLeast cs out) : Least cs mk out :=
  ⟨h.nodup, h.lt, fun t k ht => ⟨(avail_iff hc hm).1 (h.next t k ht).1, fun i hi q => (h.next t k ht).2 i hi ((avail_iff hc hm).2 q)⟩⟩
theorem rrun_snocR {cs : List S70} {out : List Nat} {K : List Int} {V : List ByteArray} (h : RLeast cs out) (hr : Run cs out K V) {k : Nat} (hk : RAvail cs out k) {K' : List Int} {V' : List ByteArray} (hd : DoIs K V (rd_T70 cs (k : Nat)).f2 K' V' (rd_T70 cs (k : Nat)).f3) : Run cs (out ++ [k]) K' V' := by
  refine .snoc hr hk.lt hk.new (fun j hj hlt => ?_) hd
  obtain ⟨t, _, ht⟩ := mem_place hj
  have := (h.next t j ht).1.free k hk.lt (fun q => hk.new (List.mem_of_mem_take q)) (fun e => hk.new (by rw [e]; exact hj))
  unfold aheadB at this
  rw [decide_eq_true hlt] at this
  cases this
theorem run_same {cs : List S70} {a : List Nat} {K1 : List Int} {V1 : List ByteArray} (h : Run cs a K1 V1) : ∀ {K2 : List Int} {V2 : List ByteArray}, Run cs a K2 V2 → K1 = K2 ∧ V1 = V2 := by
  have key : ∀ {a : List Nat} {K1 : List Int} {V1 : List ByteArray}, Run cs a K1 V1 → ∀ {b : List Nat} {K2 : List Int} {V2 : List ByteArray}, Run cs b K2 V2 → a = b → K1 = K2 ∧ V1 = V2 := by
    intro a K1 V1 h
    induction h with
    | nil =>
      intro b K2 V2 g e
      cases g with
      | nil => exact ⟨rfl, rfl⟩
      | snoc _ _ _ _ _ => simp at e
    | snoc _ _ _ _ hd ih =>
      intro b K2 V2 g e
      cases g with
      | nil => simp at e
      | snoc g0 _ _ _ gd =>
        obtain ⟨e1, e2⟩ := List.append_inj' e rfl
        cases e2
        obtain ⟨rfl, rfl⟩ := ih g0 e1
        exact ⟨(does_one hd gd).1, (does_one hd gd).2.1⟩
  exact fun {_ _} g => key h g rfl
theorem rtold_all {cs : List S70} (hc : CsOk cs) {out : List Nat} {K : List Int} {V : List ByteArray} (h : RLeast cs out) (hr : Run cs out K V) (hl : out.length = cs.length) : toldB cs = some (froms cs out) := by
  obtain ⟨mk, m1, m2⟩ := made_of_run hc hr hl
  obtain ⟨o, ho⟩ := ord_ex hc.few m2
  obtain ⟨a, b⟩ := ord_some hc.few ho
  have e := (rleast_least hc (made_of m1) h).one a (hl.trans b.symm)
  unfold toldB
  rw [m1, Option.bind_some, ho, e]
  rfl
theorem rtold_stuck {cs : List S70} (hc : CsOk cs) {out : List Nat} (hl : out.length < cs.length) (hn : ∀ i, ¬ RAvail cs out i) : toldB cs = none := by
  cases q : toldB cs with
  | none => rfl
  | some os =>
    unfold toldB at q
    obtain ⟨mk, h1, h2⟩ := Option.bind_eq_some_iff.1 q
    obtain ⟨is, h3, _⟩ := Option.map_eq_some_iff.1 h2
    obtain ⟨a, b⟩ := ord_some hc.few h3
    obtain ⟨i, hi⟩ := avail_ex (a.ext b) hl
    exact absurd ((avail_iff hc (made_of h1)).2 hi) (hn i)
theorem rtold_bad {cs : List S70} (hc : CsOk cs) {out : List Nat} {K : List Int} {V : List ByteArray} (h : RLeast cs out) (hr : Run cs out K V) {k : Nat} (hk : RAvail cs out k) {K' : List Int} {V' : List ByteArray} {r : S43} (hd : DoIs K V (rd_T70 cs (k : Nat)).f2 K' V' r) (hne : r ≠ (rd_T70 cs (k : Nat)).f3) : toldB cs = none := by
  cases q : toldB cs with
  | none => rfl
  | some os =>
    exfalso
    unfold toldB at q
    obtain ⟨mk, h1, h2⟩ := Option.bind_eq_some_iff.1 q
    have hm := made_of h1
    have hL := rleast_least hc hm h
    have hA := (avail_iff hc hm).1 hk
    obtain ⟨K2, V2, hr2⟩ := run_step hc hm hr hL.lt hL.down hA.lt hA.new hA.down
    obtain ⟨_, _, h3⟩ := run_take hr2
    obtain ⟨K3, V3, K4, V4, a1, _, _, a4⟩ := h3 out.length k (by rw [List.getElem?_append_right (Nat.le_refl _), Nat.sub_self]; rfl)
    rw [List.take_left' rfl] at a1
    have e : K3 = K ∧ V3 = V := run_same a1 hr
    obtain ⟨rfl, rfl⟩ := e
    exact hne (does_one hd a4).2.2
theorem row_apart {W : World} {t base : Nat} {K : List Int} {V : List ByteArray} {vk vv : Value} (h : RTab W t base K V vk vv) {base2 size n : Nat} {v : Value} {xs : List Value} (ho : W.ownsRow base2 70 size v n xs) : ∀ g, v.ownBlock = some g → ¬ TabS t vk vv g := by
  intro g hg hs
  obtain ⟨c1, h1⟩ := own_typed ho g hg
  rcases hs with rfl | hs | hs
  · rw [h.blk] at h1; cases h1
  · obtain ⟨c2, h2⟩ := own_typed h.keys g hs
    rw [h1] at h2; cases h2
  · obtain ⟨c2, h2⟩ := own_typed h.vals g hs
    rw [h1] at h2; cases h2
theorem RTab.grown {W W1 : World} {t base : Nat} {K : List Int} {V : List ByteArray} {vk vv : Value} (h : RTab W t base K V vk vv) {base2 size n : Nat} {v : Value} {xs : List Value} (ho : W.ownsRow base2 70 size v n xs) (hg : W.grownBy W1 v.ownBlock) : RTab W1 t base K V vk vv :=
  have hne : ∀ b, TabS t vk vv b → some b ≠ v.ownBlock := fun b hb e => row_apart h ho b e.symm hb
  ⟨(hg.block t (blk_lt h.blk) (hne t (.inl rfl))).trans h.blk, row_move h.keys fun g e => hg.block g (own_lt h.keys e) (hne g (.inr (.inl e))), row_move h.vals fun g e => hg.block g (own_lt h.vals e) (hne g (.inr (.inr e))), h.out, h.apart, h.len, h.small⟩
theorem does_len {K : List Int} {V : List ByteArray} {o : S40} {K' : List Int} {V' : List ByteArray} {r : S43} (h : DoIs K V o K' V' r) : K'.length ≤ K.length + 1 := by
  unfold DoIs at h
  split at h
  · obtain ⟨lo, hp, h⟩ := h
    split at h
    · rw [h.1]; omega
    · rw [h.1, holed_len hp.le]; exact Nat.le_refl _
  · split at h
    · obtain ⟨lo, _, h, _⟩ := h; rw [h]; omega
    · rw [h.1]; omega
theorem does_reply {K : List Int} {V : List ByteArray} {o : S40} {K' : List Int} {V' : List ByteArray} {r : S43} (h : DoIs K V o K' V' r) (hl : K.length = V.length) : r.f2.length = r.f3.length ∧ r.f2.length ≤ K.length := by
  unfold DoIs at h
  split at h
  · obtain ⟨lo, hp, h⟩ := h
    split at h <;> (rw [h.2.2]; exact ⟨rfl, Nat.zero_le _⟩)
  · split at h
    · obtain ⟨lo, _, _, _, h⟩ := h
      rw [h]
      split <;> exact ⟨rfl, Nat.zero_le _⟩
    · rw [h.2.2]; exact ⟨hl, Nat.le_refl _⟩
structure PInv (w w1 wr : World) (cs : List S70) (os : List Int) (i : Nat) (bef : List S70) (K : List Int) (V : List ByteArray) (vk vv v : Value) : Prop where
  reach : Reach cs os i bef K V
  row : OwnRow (k70.K w1) 70 9 wr w1.heap.size v bef
  tab : RTab wr w1.heap.size (w1.heap.size + 1) K V vk vv
  rising : Rising K
  small : K.length ≤ i
  below : Below w1.heap.size w1 wr
theorem PInv.move {w w1 wr w2 : World} {cs : List S70} {os : List Int} {i : Nat} {bef : List S70} {K : List Int} {V : List ByteArray} {vk vv v : Value} (h : PInv w w1 wr cs os i bef K V vk vv v) (hb : Below wr.heap.size wr w2) : PInv w w1 w2 cs os i bef K V vk vv v :=
  ⟨h.reach, h.row.below hb, h.tab.below hb, h.rising, h.small, below_step h.below hb⟩
def flags (n : Nat) (out : List Nat) : List Value := (List.range n).map fun i => Value.bool (decide (i ∈ out))
theorem flags_nil (n : Nat) : List.replicate n (Value.bool false) = flags n [] := by
  unfold flags
  refine List.ext_getElem (by simp) fun i h1 h2 => ?_
  simp
theorem infoBool : (Try.prog.info? 4).map (fun i => (i.zero, i.size, i.bytes)) = some (some (.bool false), 1, 1) := by kernel_rfl
theorem run_makeBools (n : Nat) (hn : n ≤ 1099511627776) : ∀ w, (Instr.makeSlice 77 (.int .i64 (n : Int)) (.int .i64 (n : Int))).run Try.prog w = .ok (.slice (some ⟨w.heap.size, 0, none⟩) n n) (w.alloc (.cells (flags n []).toArray 4)) := by
  intro w
  rw [← flags_nil]
  obtain ⟨i0, hi, hz0, hz1, hz2⟩ := info_parts infoBool
  have := run_make_rowN 77 4 i0 _ Try.underlying77 hi hz0 .i64 .i64 n n (Nat.le_refl _) (by rw [hz2]; omega) (by omega) w
  rw [hz1, madeCells_one _ rfl] at this
  exact this
theorem flags_at {n : Nat} {out : List Nat} {i : Nat} (h : i < n) : (flags n out).toArray[i]? = some (.bool (decide (i ∈ out))) := by
  unfold flags
  simp [h]
theorem flags_set {n : Nat} {out : List Nat} {k : Nat} (_ : k < n) : (flags n out).toArray.setIfInBounds k (.bool true) = (flags n (out ++ [k])).toArray := by
  apply Array.ext'
  unfold flags
  simp only [Array.toList_setIfInBounds]
  refine List.ext_getElem (by simp) fun i h1 h2 => ?_
  rw [List.getElem_set]
  by_cases e : k = i
  · subst e
    simp
  · rw [if_neg e]
    have e2 : i ≠ k := fun q => e q.symm
    simp [e2]
def RPost (w : World) (l0 : List S45) (e : Ending) (w' : World) : Prop := ∃ v b x, e = .returned (.tuple #[v, .bool b, .int .i64 x]) ∧ Below w.heap.size w w' ∧ OrdIs w' w.heap.size v b x ((refB l0).map toldB)
structure ROInv (w1 wr : World) (cs : List S70) (out : List Nat) (K : List Int) (V : List ByteArray) (vk vv v : Value) : Prop where
  least : RLeast cs out
  run : Run cs out K V
  tab : RTab wr w1.heap.size (w1.heap.size + 2) K V vk vv
  rising : Rising K
  done : wr.heap[w1.heap.size + 1]? = some (.cells (flags cs.length out).toArray 4 (0, 0))
  row : wr.ownsRow (w1.heap.size + 2) 3 1 v (froms cs out).length (i64s (froms cs out))
  apart : ∀ g, v.ownBlock = some g → ¬ TabS w1.heap.size vk vv g
  small : K.length ≤ out.length
  below : Below w1.heap.size w1 wr
theorem ROInv.move {w1 wr w2 : World} {cs : List S70} {out : List Nat} {K : List Int} {V : List ByteArray} {vk vv v : Value} (h : ROInv w1 wr cs out K V vk vv v) (hb : Below wr.heap.size wr w2) : ROInv w1 w2 cs out K V vk vv v :=
  ⟨h.least, h.run, h.tab.below hb, h.rising, blk_below h.done hb, row_move h.row fun g e => hb.block g (own_lt h.row e), h.apart, h.small, below_step h.below hb⟩
structure RO3 (w1 w3 : World) (cs : List S70) (out : List Nat) (K : List Int) (V : List ByteArray) (vk vv v : Value) : Prop where
  tab : RTab w3 w1.heap.size (w1.heap.size + 2) K V vk vv
  rising : Rising K
  done : w3.heap[w1.heap.size + 1]? = some (.cells (flags cs.length out).toArray 4 (0, 0))
  row : w3.ownsRow (w1.heap.size + 2) 3 1 v (froms cs out).length (i64s (froms cs out))
  apart : ∀ g, v.ownBlock = some g → ¬ TabS w1.heap.size vk vv g
  below : Below w1.heap.size w1 w3
theorem RO3.move {w1 wr w2 : World} {cs : List S70} {out : List Nat} {K : List Int} {V : List ByteArray} {vk vv v : Value} (h : RO3 w1 wr cs out K V vk vv v) (hb : Below wr.heap.size wr w2) : RO3 w1 w2 cs out K V vk vv v :=
  ⟨h.tab.below hb, h.rising, blk_below h.done hb, row_move h.row fun g e => hb.block g (own_lt h.row e), h.apart, below_step h.below hb⟩
theorem done_apart {W : World} {t base D : Nat} {K : List Int} {V : List ByteArray} {vk vv : Value} (h : RTab W t base K V vk vv) {cells : Array Value} (hd : W.heap[D]? = some (.cells cells 4 (0, 0))) : ¬ TabS t vk vv D := by
  intro hs
  rcases hs with rfl | hs | hs
  · rw [h.blk] at hd; cases hd
  · obtain ⟨c2, h2⟩ := own_typed h.keys D hs
    rw [hd] at h2; cases h2
  · obtain ⟨c2, h2⟩ := own_typed h.vals D hs
    rw [hd] at h2; cases h2
theorem done_row {W : World} {base n D : Nat} {v : Value} {xs : List Value} (h : W.ownsRow base 3 1 v n xs) {cells : Array Value} (hd : W.heap[D]? = some (.cells cells 4 (0, 0))) : ∀ g, v.ownBlock = some g → g ≠ D := by
  rintro g hg rfl
  obtain ⟨c2, h2⟩ := own_typed h g hg
  rw [hd] at h2; cases h2
theorem RO3.of {w1 wr w3 : World} {cs : List S70} {out : List Nat} {K K' : List Int} {V V' : List ByteArray} {vk vv vk' vv' v : Value} (h : ROInv w1 wr cs out K V vk vv v) (ht : RTab w3 w1.heap.size (w1.heap.size + 2) K' V' vk' vv') (hr : Rising K') (ho : Only wr w3 (TabS w1.heap.size vk vv)) (hn : ∀ b, TabS w1.heap.size vk' vv' b → TabS w1.heap.size vk vv b ∨ wr.heap.size ≤ b) : RO3 w1 w3 cs out K' V' vk' vv' v := by
  refine ⟨ht, hr, (ho.block _ (blk_lt h.done) (done_apart h.tab h.done)).trans h.done, row_move h.row fun g e => ho.block g (own_lt h.row e) (h.apart g e), fun g e q => ?_, ?_⟩
  · rcases hn g q with a | a
    · exact h.apart g e a
    · have := own_lt h.row e; omega
  · refine h.below.trans (ho.below (below_size h.below) fun b hb => ?_)
    rcases hb with rfl | hb | hb
    · exact Nat.le_refl _
    · have := (h.tab.keys.lt b hb).1; omega
    · have := (h.tab.vals.lt b hb).1; omega
theorem RO3.put {w1 W w5 : World} {cs : List S70} {out : List Nat} {K : List Int} {V : List ByteArray} {vk vv v v1 : Value} {a : Nat} (h : RO3 w1 W cs out K V vk vv v) (ha : a < cs.length) (hg : (W.setCell ⟨w1.heap.size + 1, a, none⟩ (.bool true)).grownBy w5 v.ownBlock)
    (hr : w5.ownsRow (w1.heap.size + 2) 3 1 v1 (froms cs (out ++ [a])).length (i64s (froms cs (out ++ [a])))) (hat : v1.ownBlock = v.ownBlock ∨ ∃ b, v1.ownBlock = some b ∧ (W.setCell ⟨w1.heap.size + 1, a, none⟩ (.bool true)).heap.size ≤ b)
    (hl : RLeast cs (out ++ [a])) (hrun : Run cs (out ++ [a]) K V) (hsm : K.length ≤ (out ++ [a]).length) : ROInv w1 w5 cs (out ++ [a]) K V vk vv v1 := by
  have hsz : (W.setCell ⟨w1.heap.size + 1, a, none⟩ (.bool true)).heap.size = W.heap.size := by simp [World.setCell]
  have hS : Only W w5 (fun b => b = w1.heap.size + 1 ∨ v.ownBlock = some b) :=
    ((Only.refl W _).setCell (p := ⟨w1.heap.size + 1, a, none⟩) (.inl (.inl rfl)) (.bool true)).grown hg fun g e => .inl (.inr e)
  have hne := done_row h.row h.done
  refine ⟨hl, hrun, h.tab.only hS fun b hb => ?_, h.rising, ?_, hr, fun g e q => ?_, hsm, ?_⟩
  · rcases hb with rfl | hb
    · exact done_apart h.tab h.done
    · exact h.apart b hb
  · rw [hg.block _ (by rw [hsz]; exact blk_lt h.done) fun e => hne _ e.symm rfl]
    have := blk_set h.done a (.bool true)
    rw [flags_set ha] at this
    exact this
  · rcases hat with e1 | ⟨b, e1, e2⟩
    · exact h.apart g (by rw [← e1]; exact e) q
    · rw [e1] at e
      cases e
      have := h.tab.lt q
      omega
  · refine h.below.trans (hS.below (below_size h.below) fun b hb => ?_)
    rcases hb with rfl | hb
    · omega
    · have := (h.row.lt b hb).1; omega
theorem froms_len (cs : List S70) (out : List Nat) : (froms cs out).length = out.length := by unfold froms; simp
def Found (cs : List S70) (out : List Nat) (i : Nat) : Option Nat → Prop
  | none => ∀ j, j < i → ¬ RAvail cs out j
  | some a => a < i ∧ RAvail cs out a ∧ ∀ j, j < a → ¬ RAvail cs out j
def FreeTo (cs : List S70) (out : List Nat) (i k : Nat) : Prop := i ∉ out ∧ ∀ j, j < k → j ∉ out → j ≠ i → aheadB (rd_T70 cs (j : Nat)) (rd_T70 cs (i : Nat)) = false
theorem free_zero {cs : List S70} {out : List Nat} {i : Nat} : FreeTo cs out i 0 ↔ i ∉ out := ⟨fun h => h.1, fun h => ⟨h, fun j hj => by omega⟩⟩
theorem free_skip {cs : List S70} {out : List Nat} {i k : Nat} (h : k ∈ out ∨ k = i ∨ aheadB (rd_T70 cs (k : Nat)) (rd_T70 cs (i : Nat)) = false) : FreeTo cs out i (k + 1) ↔ FreeTo cs out i k := by
  constructor
  · exact fun q => ⟨q.1, fun j hj => q.2 j (by omega)⟩
  · refine fun q => ⟨q.1, fun j hj h1 h2 => ?_⟩
    rcases Nat.lt_or_ge j k with a | a
    · exact q.2 j a h1 h2
    · obtain rfl : j = k := by omega
      rcases h with h | h | h
      · exact absurd h h1
      · exact absurd h h2
      · exact h
theorem free_not {cs : List S70} {out : List Nat} {i k : Nat} (h1 : k ∉ out) (h2 : k ≠ i) (h3 : aheadB (rd_T70 cs (k : Nat)) (rd_T70 cs (i : Nat)) = true) : ¬ FreeTo cs out i (k + 1) := fun q => by
  have := q.2 k (by omega) h1 h2
  rw [h3] at this
  cases this
theorem free_avail {cs : List S70} {out : List Nat} {i : Nat} (hi : i < cs.length) : FreeTo cs out i cs.length ↔ RAvail cs out i := ⟨fun h => ⟨hi, h.1, h.2⟩, fun h => ⟨h.new, h.free⟩⟩
set_option maxRecDepth 200000 in
set_option maxHeartbeats 16000000 in
theorem rorder_walk (w : World) (A : Option Addr) (c : Nat) (l0 : List S45) (hr : Kd.C k45 w A l0.length l0) (hc : l0.length ≤ c) (hs : ShortH l0) :
    Calls Try.prog 19 #[.slice A l0.length c] w fun e w' => RPost w l0 e w' := by
  have hcw := calls_walk w A c l0 hr hc hs.1
  have HCW := Lib.hid hcw
  have HSH := Lib.hid hs
  clear hr hc hcw hs
  have hu70 := Try.underlying70
  have hu40 := Try.underlying40
  have hu43 := Try.underlying43
  have hu76 := Try.underlying76
  go_enter Try.func19, Try.ntmps19
  go_wp2_with fail
  refine HCW.out.mono ?_
  rintro e w1 ⟨hb, v, ok, rfl, hend⟩
  cases hrf : refB l0 with
  | none =>
    rw [hrf] at hend
    obtain ⟨rfl, Ax, nx, cx, rfl⟩ := hend
    have HB := Lib.hid hb
    have HRF := Lib.hid hrf
    clear hb hrf
    go_wp2_with fail
    go_ret3
    exact ⟨_, _, _, rfl, HB.out, by rw [HRF.out]; exact ⟨rfl, rfl, rfl⟩⟩
  | some cs =>
    rw [hrf] at hend
    obtain ⟨hrow, rfl⟩ := hend
    obtain ⟨A3, c3, rfl, h3⟩ := hrow.slice_
    obtain ⟨A3', c3', he3, _, hC3⟩ := (hrow.imp_ (fun _ _ => k70.K_below hb)).reads
    cases he3
    have hok : CsOk cs := read_csok HSH.out (by rw [read_eq HSH.out]; exact hrf)
    have hn : cs.length ≤ 64 := hok.few
    have HOK := Lib.hid hok
    have HW := Lib.hid (And.intro hb (And.intro hC3 (And.intro h3 hrf)))
    clear hb hrow h3 hC3 hrf hok
    have hmk := run_makeBools cs.length (by omega)
    go_wp2_with fail
    go_loopw [8] (fun s8 wr => ∃ (out : List Nat) (K : List Int) (V : List ByteArray) (vk vv : Value), ROInv w1 wr cs out K V vk vv s8) (fun s8 _ => cs.length - (match s8 with | .slice _ n _ => n | _ => 0))
    case atStart => exact ⟨[], [], [], .slice none 0 0, .slice none 0 0, RLeast.nil cs, .nil, ⟨blk_alloc (new_blk _) _, own_nil _ _ _ _, own_nil _ _ _ _, by omega, (fun g e => by cases e), rfl, Nat.zero_le _⟩, (fun i j _ q => by cases q), by have := blk_new (w1.alloc (.cells #[Value.slice none 0 0, Value.slice none 0 0] 76)) (.cells (flags cs.length []).toArray 4); simpa using this, own_nil _ _ _ _, (fun g e => by cases e), Nat.zero_le _, below_alloc (below_alloc (Below.refl _ _) _) _⟩
    case round =>
      obtain ⟨out, K, V, vk, vv, hP⟩ := hrel
      obtain ⟨A8, c8, rfl⟩ := own_slice hP.row
      have hfl := froms_len cs out
      have hol : out.length ≤ cs.length := by
        have := nodup_len hP.least.nodup (l2 := List.range cs.length) fun x hx => List.mem_range.2 (hP.least.lt x hx)
        simpa using this
      rw [hfl] at hP ⊢
      have HP := Lib.hid hP
      have HFL := Lib.hid hfl
      clear hP hfl
      by_cases hlt : out.length < cs.length
      · have hlD : decide ((out.length : Int) < (cs.length : Int)) = true := by simp; omega
        obtain ⟨wP, hwP⟩ : ∃ wP, wP = wr := ⟨_, rfl⟩
        subst hwP
        go_wp2_with fail
        go_loopw [10, 11] (fun s10 s11 wr => ∃ (i : Nat) (f : Option Nat), i ≤ cs.length ∧ s10 = .int .i64 (atI f) ∧ s11 = .int .i64 i ∧ Found cs out i f ∧ Below wP.heap.size wP wr) (fun _ s11 _ => cs.length - (intOf s11).toNat)
        case atStart => exact ⟨0, none, Nat.zero_le _, rfl, rfl, (fun j q => by omega), Below.refl _ _⟩
        case round =>
          obtain ⟨i, f, hi, rfl, rfl, hF, hB⟩ := hrel
          have HF := Lib.hid hF
          have HB := Lib.hid hB
          have HP2 := Lib.hid (HP.out.move hB)
          clear hF hB
          have hi2 : i ≤ 2147483647 := by omega
          cases f with
          | none =>
            rw [show atI none = (-1 : Int) from rfl]
            by_cases hil : i < cs.length
            · have hilD : decide ((i : Int) < (cs.length : Int)) = true := by simp; omega
              obtain ⟨wQ, hwQ⟩ : ∃ wQ, wQ = wr := ⟨_, rfl⟩
              subst hwQ
              have x0 := blk_cell HP2.out.done (flags_at (out := out) hil)
              go_wp2_with fail
              clear x0
              go_loopw [12, 13] (fun s12 s13 wr => ∃ (k : Nat) (b : Bool), k ≤ cs.length ∧ s12 = .bool b ∧ s13 = .int .i64 k ∧ (b = true ↔ FreeTo cs out i k) ∧ Below wQ.heap.size wQ wr) (fun _ s13 _ => cs.length - (intOf s13).toNat)
              case atStart => exact ⟨0, _, Nat.zero_le _, rfl, rfl, by rw [free_zero]; simp, Below.refl _ _⟩
              case round =>
                obtain ⟨k, b, hk, rfl, rfl, hbk, hB2⟩ := hrel
                have HBK := Lib.hid hbk
                have HB2 := Lib.hid hB2
                have HP3 := Lib.hid (HP2.out.move hB2)
                clear hbk hB2
                by_cases hkl : k < cs.length
                · have hkD : decide ((k : Int) < (cs.length : Int)) = true := by simp; omega
                  have hk2 : k ≤ 2147483647 := by omega
                  have x0 := blk_cell HP3.out.done (flags_at (out := out) hkl)
                  by_cases hko : k ∈ out
                  · rw [decide_eq_true hko] at x0
                    have HS := Lib.hid (free_skip (cs := cs) (out := out) (i := i) (k := k) (.inl hko))
                    clear hko
                    go_wp2_with fail
                    go_quiet (fail)
                    go_wp2_with fail
                    go_roundw
                    case rel => exact ⟨k + 1, b, by omega, rfl, by go_num, by rw [HS.out]; exact HBK.out, pw_below_drewN HB2.out _⟩
                    case measure => simp [intOf]; omega
                  · rw [decide_eq_false hko] at x0
                    by_cases hki : k = i
                    · have HS := Lib.hid (free_skip (cs := cs) (out := out) (i := i) (k := k) (.inr (.inl hki)))
                      have hkiD : ((k : Int) != (i : Int)) = false := by simp [hki]
                      have hkiE : (k != i) = false := by simp [hki]
                      clear hko hki
                      go_wp2_with fail
                      go_quiet (fail)
                      go_wp2_with fail
                      go_roundw
                      case rel => exact ⟨k + 1, b, by omega, rfl, by go_num, by rw [HS.out]; exact HBK.out, pw_below_drewN HB2.out _⟩
                      case measure => simp [intOf]; omega
                    · obtain ⟨hkiA, hkiE, _⟩ := nat_ne_forms hki
                      have hkiD : ((k : Int) != (i : Int)) = true := bne_iff_ne.mpr (by omega)
                      obtain ⟨ac, E7, e7, E8, e8, hA3, q0, q1, q2, q3, q4, q5, q6, q7, q8, l7, g7, _, _⟩ := at_T70 (w := wr) (Kd.C_below HW.out.2.1 HP3.out.below) k (by omega) (by omega)
                      subst hA3
                      obtain ⟨ac', F7, f7, F8, f8, hA3, z0, z1, z2, z3, z4, z5, z6, z7, z8, m7, j7, _, _⟩ := at_T70 (w := wr) (Kd.C_below HW.out.2.1 HP3.out.below) i (by omega) (by omega)
                      cases hA3
                      simp only [Int.toNat_natCast] at q0 q1 q2 q3 q4 q5 q6 q7 q8 z0 z1 z2 z3 z4 z5 z6 z7 z8
                      have HAH := fun (W : World) (h : Below wr.heap.size wr W) => ahead_calls W (rd_T70 cs (k : Nat)) E7 e7 E8 e8 ⟨l7, Kd.C_below g7 h, by have := HOK.out.keys k hkl; omega⟩ (rd_T70 cs (i : Nat)) F7 f7 F8 f8 ⟨m7, Kd.C_below j7 h, by have := HOK.out.keys i hil; omega⟩
                      unfold callV at HAH
                      have HAH := Lib.hid HAH
                      have HKO := Lib.hid (And.intro hko hki)
                      clear l7 g7 m7 j7 hko hki
                      go_wp2_with fail
                      refine wp_region_still_tail 19 (by kernel_rfl) (by kernel_rfl) ?_
                      simp only [List.take_succ_cons, List.take_zero, List.drop_succ_cons, List.drop_zero]
                      repeat still_step
                      refine wpStill_nil ?_
                      go_wp2_with fail
                      refine (HAH.out _ (below_drew1 (Below.refl _ _))).mono ?_
                      rintro e w3 ⟨rfl, hb3⟩
                      have HB3 := Lib.hid (HB2.out.trans ((show Below wr.heap.size wr w3 from (below_drew1 (Below.refl _ _)).trans hb3).mono (below_size HB2.out)))
                      clear hb3 q0 q1 q2 q3 q4 q5 q6 q7 q8 z0 z1 z2 z3 z4 z5 z6 z7 z8 x0
                      cases hq : aheadB (rd_T70 cs (k : Nat)) (rd_T70 cs (i : Nat)) with
                      | true =>
                        have HS := Lib.hid (free_not HKO.out.1 HKO.out.2 hq)
                        clear hq
                        go_wp2_with fail
                        go_roundw
                        case rel => exact ⟨k + 1, false, by omega, rfl, by go_num, ⟨(fun q => by cases q), fun q => absurd q HS.out⟩, HB3.out⟩
                        case measure => simp [intOf]; omega
                      | false =>
                        have HS := Lib.hid (free_skip (cs := cs) (out := out) (i := i) (k := k) (.inr (.inr hq)))
                        clear hq
                        go_wp2_with fail
                        go_roundw
                        case rel => exact ⟨k + 1, b, by omega, rfl, by go_num, by rw [HS.out]; exact HBK.out, HB3.out⟩
                        case measure => simp [intOf]; omega
                · obtain rfl : k = cs.length := by omega
                  have HAV : Hid (b = true ↔ RAvail cs out i) := Lib.hid (by rw [← free_avail hil]; exact HBK.out)
                  have HB12 := Lib.hid (below_step HB.out HB2.out)
                  cases b with
                  | true =>
                    go_wp2_with fail
                    go_roundw
                    case rel => exact ⟨i + 1, some i, by omega, rfl, by go_num, ⟨by omega, HAV.out.1 (by first | trivial | rfl), HF.out⟩, HB12.out⟩
                    case measure => simp [intOf]; omega
                  | false =>
                    go_wp2_with fail
                    go_roundw
                    case rel =>
                      refine ⟨i + 1, none, by omega, rfl, by go_num, fun j hj => ?_, HB12.out⟩
                      rcases Nat.lt_or_ge j i with a | a
                      · exact HF.out j a
                      · obtain rfl : j = i := by omega
                        intro q
                        have := HAV.out.2 q
                        simp at this
                    case measure => simp [intOf]; omega
            · obtain rfl : i = cs.length := by omega
              have HTN : Hid (toldB cs = none) := Lib.hid (rtold_stuck HOK.out hlt fun i hi => HF.out i hi.lt hi)
              have HBB := Lib.hid HP2.out.below
              go_wp2_with fail
              go_ret3
              exact ⟨_, _, _, rfl, HW.out.1.trans (HBB.out.mono (below_size HW.out.1)), by rw [HW.out.2.2.2]; simp only [Option.map_some]; rw [HTN.out]; exact ⟨rfl, rfl, rfl⟩⟩
          | some a =>
            obtain ⟨hai, hav, hle⟩ := HF.out
            have haD : decide ((a : Int) < 0) = false := decide_eq_false (by omega)
            have hal := hav.lt
            have HAV := Lib.hid (And.intro hav hle)
            rw [show atI (some a) = (a : Int) from rfl]
            clear hav hle
            by_cases hil : i < cs.length
            all_goals (
              first
                | have hilD : decide ((i : Int) < (cs.length : Int)) = true := by simp; omega
                | have hilD : decide ((i : Int) < (cs.length : Int)) = false := by simp; omega
              have hacD : decide ((a : Int) < (cs.length : Int)) = true := by simp; omega
              obtain ⟨ac, E7, e7, E8, e8, hA3, q0, q1, q2, q3, q4, q5, q6, q7, q8, l7, g7, l8, g8⟩ := at_T70 (w := wr) (Kd.C_below HW.out.2.1 HP2.out.below) a (by omega) (by omega)
              subst hA3
              have HG := Lib.hid (And.intro l7 (And.intro g7 (And.intro l8 g8)))
              simp only [Int.toNat_natCast] at q0 q1 q2 q3 q4 q5 q6 q7 q8
              clear q0 q1 q5 q6 q7 q8 l7 g7 l8 g8
              go_wp2_with fail
              clear q2 q3 q4
              have hdo := rdo HP2.out.tab HP2.out.rising (by have := HP2.out.small; omega) (by have := blk_lt HP2.out.done; omega) (rd_T70 cs (a : Nat)).f2
              refine hdo.mono ?_
              clear hdo
              rintro e w3 ⟨K', V', vk', vv', r, A2, c2, A3, c3', hD, rfl, l2, k2, l3, k3, ht3, hr3, hon, hnw⟩
              have H3 := Lib.hid (RO3.of HP2.out ht3 hr3 hon hnw)
              have hdr := does_reply hD HP2.out.tab.len
              have hdl := does_len hD
              have hb3 : Below w1.heap.size w1 w3 := H3.out.below
              have HB3 := Lib.hid hb3
              have HD := Lib.hid (And.intro hD (And.intro hdr hdl))
              have H4 := Lib.hid (And.intro l2 (And.intro k2 (And.intro l3 k3)))
              clear ht3 hr3 hon hnw hD hdr hdl hb3 l2 k2 l3 k3
              obtain ⟨bq, hq1, hq2⟩ := eqreply_some r (rd_T70 cs (a : Nat)).f3 HD.out.2.1.1 (by have := HD.out.2.1.2; have := HP2.out.small; omega)
              obtain ⟨ac', E7', e7', E8', e8', hA3, q0, q1, q2, q3, q4, q5, q6, q7, q8, l7, g7, l8, g8⟩ := at_T70 (w := w3) (Kd.C_below HW.out.2.1 HB3.out) a (by omega) (by omega)
              cases hA3
              have HG3 := Lib.hid (And.intro l7 (And.intro g7 (And.intro l8 g8)))
              clear l7 g7 l8 g8
              simp only [Int.toNat_natCast] at q0 q1 q2 q3 q4 q5 q6 q7 q8
              have HQ := Lib.hid (And.intro hq1 hq2)
              clear hq1 hq2
              go_wp2_with fail
              refine nameW ?_
              intro V3 hV
              have hVb : Below w3.heap.size w3 V3 := by rw [hV]; exact below_alloc (Below.refl _ _) _
              have hbx : V3.heap[w3.heap.size]? = some (.cells #[.bool r.f0, .string r.f1, .slice A2 r.f2.length c2, .slice A3 r.f3.length c3'] 43 (0, 0)) := by rw [hV]; exact new_blk _
              have mv : ∀ {p : Addr} {u : Value}, w3.cell? p = some u → V3.cell? p = some u := fun h => (hVb.cell (World.block_lt_of_cell? w3 _ h)).trans h
              have HV := Lib.hid (And.intro hVb hbx)
              have y0 := blk_cell hbx (i := 0) rfl
              have y1 := blk_cell hbx (i := 1) rfl
              have y2 := blk_cell hbx (i := 2) rfl
              have y3 := blk_cell hbx (i := 3) rfl
              replace q5 := mv q5
              replace q6 := mv q6
              replace q7 := mv q7
              replace q8 := mv q8
              clear mv hVb hbx hV q0 q1 q2 q3 q4
              refine wp_region_still_tail 6 (by kernel_rfl) (by kernel_rfl) ?_
              simp only [List.take_succ_cons, List.take_zero, List.drop_succ_cons, List.drop_zero]
              repeat still_step
              refine wpStill_nil ?_
              go_wp2_with fail
              have HVd := Lib.hid (show Below w3.heap.size w3 V3.drew from below_drew1 HV.out.1)
              refine (fugueref00_EqReply.calls (r.f2.length + 1) r.f0 r.f1 A2 c2 r.f2 A3 c3' r.f3 (rd_T70 cs (a : Nat)).f3.f0 (rd_T70 cs (a : Nat)).f3.f1 E7' e7' (rd_T70 cs (a : Nat)).f3.f2 E8' e8' (rd_T70 cs (a : Nat)).f3.f3 bq _ (Kd.C_below H4.out.2.1 HVd.out) H4.out.1 (Kd.C_below H4.out.2.2.2 HVd.out) H4.out.2.2.1 (Kd.C_below HG3.out.2.1 HVd.out) HG3.out.1 (Kd.C_below HG3.out.2.2.2 HVd.out) HG3.out.2.2.1 HQ.out.1).mono ?_
              rintro e w4 ⟨rfl, hb4⟩
              have H34 := Lib.hid (show Below w3.heap.size w3 w4 from HVd.out.trans (hb4.mono (below_size HVd.out)))
              have HO4 := Lib.hid (H3.out.move H34.out)
              clear hb4 y0 y1 y2 y3 q5 q6 q7 q8
              cases bq with
              | false =>
                have HTN : Hid (toldB cs = none) := Lib.hid (rtold_bad HOK.out HP2.out.least HP2.out.run HAV.out.1 HD.out.1 fun e => by have := HQ.out.2.2 e; cases this)
                go_wp2_with fail
                go_ret3
                exact ⟨_, _, _, rfl, HW.out.1.trans (HO4.out.below.mono (below_size HW.out.1)), by rw [HW.out.2.2.2]; simp only [Option.map_some]; rw [HTN.out]; exact ⟨rfl, rfl, rfl⟩⟩
              | true =>
                have hre : r = (rd_T70 cs (a : Nat)).f3 := HQ.out.2.1 (by first | trivial | rfl)
                have HRUN : Hid (Run cs (out ++ [a]) K' V') := Lib.hid (rrun_snocR HP2.out.least HP2.out.run HAV.out.1 (by rw [← hre]; exact HD.out.1))
                have HLST : Hid (RLeast cs (out ++ [a])) := Lib.hid (HP2.out.least.snoc HAV.out.1 HAV.out.2)
                have HSM : Hid (K'.length ≤ (out ++ [a]).length) := Lib.hid (by have := HD.out.2.2; have := HP2.out.small; rw [List.length_append, List.length_singleton]; omega)
                clear hre
                obtain ⟨ac', F7, f7, F8, f8, hA3, q0, q1, q2, q3, q4, q5, q6, q7, q8, _, _, _, _⟩ := at_T70 (w := w4) (Kd.C_below HW.out.2.1 HO4.out.below) a (by omega) (by omega)
                cases hA3
                simp only [Int.toNat_natCast] at q0
                clear q1 q2 q3 q4 q5 q6 q7 q8
                have x0 := blk_cell HO4.out.done (flags_at (out := out) hal)
                have fz := blk_frozen HO4.out.done
                obtain ⟨acw, _, _, _, _, hAw, p0, _⟩ := at_T70 (w := w1) HW.out.2.1 a (by omega) (by omega)
                cases hAw
                simp only [Int.toNat_natCast] at p0
                have hlt0 := World.block_lt_of_cell? w1 _ p0
                have q0s : (w4.setCell ⟨w1.heap.size + 1, a, none⟩ (.bool true)).cell? (ac.add (a * 9)) = some (.int .i64 (rd_T70 cs (a : Nat)).f0) :=
                  (((Only.refl w4 fun b => b = w1.heap.size + 1).setCell (p := ⟨w1.heap.size + 1, a, none⟩) (.inl rfl) (.bool true)).cell (World.block_lt_of_cell? w4 _ q0) (by omega)).trans q0
                have HOR := Lib.hid (show (Kd.int .i64).R 3 (w4.setCell ⟨w1.heap.size + 1, a, none⟩ (.bool true)) (w1.heap.size + 2) (fun _ => True) (.slice A8 out.length c8) (froms cs out) from Kd.R_of_own (own_far HO4.out.row (fun e => done_row HO4.out.row HO4.out.done _ e rfl) _) fun _ _ => trivial)
                have HSZ : Hid (w1.heap.size + 2 ≤ (w4.setCell ⟨w1.heap.size + 1, a, none⟩ (.bool true)).heap.size) := Lib.hid (by have := blk_lt HO4.out.done; simp [World.setCell]; omega)
                have HXS : Hid (w4.heap.size = (w4.setCell ⟨w1.heap.size + 1, a, none⟩ (.bool true)).heap.size) := Lib.hid (by simp [World.setCell])
                have HL47 : Hid (((froms cs out).length + 1) * 8 ≤ 140737488355328) := Lib.hid (by rw [HFL.out]; omega)
                clear p0 hlt0 q0
                go_wp2_with (refine Kd.R_append (Kd.int .i64) (w0 := w4.setCell ⟨w1.heap.size + 1, a, none⟩ (.bool true)) (w1.heap.size + 2) rfl (.tmp 98) (.tmp 104) 25 3 _ 8 rfl Try.underlying25 info3 rfl (by decide) (by decide) _ (froms cs out) (rd_T70 cs (a : Nat)).f0 [.int .i64 (rd_T70 cs (a : Nat)).f0] (fun _ => True) (fun _ => False) rfl (congrArg (fun n => Value.slice (some ⟨n, 0, none⟩) 1 1) HXS.out) rfl (fun _ q => q.elim) (fun _ _ => trivial) HOR.out (Below.refl _ _) HSZ.out HL47.out ?_; intro v1 w5 hR5 hB5 hg5 hat5; have HR5 := Lib.hid (And.intro hR5 (And.intro hg5 hat5)); clear hR5 hB5 hg5 hat5)
                obtain ⟨A9, c9, rfl⟩ := own_slice (Kd.own_of_R HR5.out.1)
                have HIN : Hid (ROInv w1 w5 cs (out ++ [a]) K' V' vk' vv' (.slice A9 (froms cs out ++ [(rd_T70 cs (a : Nat)).f0]).length c9)) := Lib.hid (by
                  have e : froms cs (out ++ [a]) = froms cs out ++ [(rd_T70 cs (a : Nat)).f0] := by unfold froms; rw [List.map_append]; rfl
                  refine HO4.out.put hal HR5.out.2.1 ?_ HR5.out.2.2 HLST.out HRUN.out HSM.out
                  rw [e]
                  exact Kd.own_of_R HR5.out.1)
                go_roundw
                case rel => exact ⟨out ++ [a], K', V', vk', vv', HIN.out⟩
                case measure => simp; have := HFL.out; omega)
      · have heq : out.length = cs.length := by omega
        have hlD : decide ((out.length : Int) < (cs.length : Int)) = false := by simp; omega
        have HTS := Lib.hid (rtold_all HOK.out HP.out.least HP.out.run heq)
        clear heq
        go_wp2_with fail
        go_ret3
        exact ⟨_, _, _, rfl, HW.out.1.trans (HP.out.below.mono (below_size HW.out.1)), by
          rw [HW.out.2.2.2]
          simp only [Option.map_some]
          rw [HTS.out]
          refine ⟨?_, rfl, rfl⟩
          have := own_lower HP.out.row (show w.heap.size ≤ w1.heap.size + 2 by have := below_size HW.out.1; omega)
          rw [HFL.out] at this ⊢
          exact this⟩
end Go.Proofs.Ytfahoomkpammiaa
namespace Go.Proofs.Ytfahoomkpammiaa
open Go.RowKit Go.MapKept Go.Shelf Go.Proofs.YtfahoomkpammiaaW.PrintWords Go.Proofs.YtfahoomkpammiaaW.PrintLast Go.Proofs.YtfahoomkpammiaaW.PrintMore Go.Proofs.Ytfahoomkpammiaa.PHistOrders
attribute [local go_sem] Oper.semAt_some
set_option maxRecDepth 200000 in
set_option maxHeartbeats 4000000 in
theorem order_walk (w : World) (A : Option Addr) (c : Nat) (l0 : List S45) (hr : Kd.C k45 w A l0.length l0) (hc : l0.length ≤ c) (hl : l0.length ≤ 2147483647) :
    Calls Try.prog 10 #[.slice A l0.length c] w fun e w' => OrdPost w l0 e w' := by
  refine (callsIn_wide (n := 9)).1 ?_
  refine callsIn_of_wp_marks Try.func10 rfl trivial ?_ rfl
  simp only [Try.ntmps10, List.size_toArray, List.length_cons, List.length_nil, Nat.reduceAdd, Nat.reduceSub, Array.replicate_succ, Array.replicate_zero, List.push_toArray, List.append_toArray, List.nil_append, List.cons_append]
  refine wpIn_wide.2 ?_
  go_wp2_with fail
  refine (read_walk w A c l0 hr hc hl).mono ?_
  rintro e w1 ⟨hb, v, ok, rfl, hend⟩
  have HW1 := Lib.hid (And.intro hb hend)
  clear hb hend
  cases ok with
  | false =>
    have hno : readB l0 = none := by
      have hend := HW1.out.2
      cases q : rat l0 l0.length with
      | none => exact readB_none q
      | some s =>
        rw [q] at hend
        exact readB_no q fun k => by have := hend.2.2 k; cases this
    have HNO := Lib.hid hno
    clear hno
    go_wp2_with fail
    refine ⟨_, results_tmp3 rfl _ _ _, ?_⟩
    exact (OrdPost.refused HNO.out HW1.out.1 : OrdPost w l0 (.returned (.tuple #[.slice none 0 0, .bool false, .int .i64 230])) w1)
  | true =>
    obtain ⟨s, hs, hrow, hopn, h64⟩ : ∃ s, rat l0 l0.length = some s ∧ OwnRow (k70.K w) 65 9 w1 w.heap.size v s.calls ∧ (∀ k, s.opn k = none) ∧ s.calls.length ≤ 64 := by
      have hend := HW1.out.2
      cases q : rat l0 l0.length with
      | none => rw [q] at hend; cases hend.2
      | some s => rw [q] at hend; exact ⟨s, rfl, hend.1, (hend.2.1 rfl).1, (hend.2.1 rfl).2⟩
    have hrd : readB l0 = some s.calls := readB_yes hs ⟨hopn, h64⟩
    have hml : ∀ m ∈ l0, m.f3.f2.length ≤ 9223372036854775807 := fun m hm => by
      obtain ⟨j, hj, rfl⟩ := List.mem_iff_getElem.1 hm
      obtain ⟨ad, E7, e7, E8, e8, _, _, _, _, _, _, _, _, _, _, _, g7, _⟩ := at_T45 hr j (by omega) (by omega)
      have := g7.2.1
      unfold rd_T45 at this
      rw [Int.toNat_natCast, List.getD_eq_getElem?_getD, List.getElem?_eq_getElem hj] at this
      exact this
    have hlens : lensOk s.calls := rat_lens hml _ _ (Nat.le_refl _) hs
    clear hml
    obtain ⟨A1, c1, hv, hcap, hC⟩ := (hrow.imp_ (fun _ _ => k70.K_below HW1.out.1)).reads
    subst hv
    obtain ⟨cs, hcs⟩ : ∃ cs, cs = s.calls := ⟨_, rfl⟩
    rw [← hcs] at hrow h64 hcap hC hrd hlens ⊢
    have hK : ∀ i, i < cs.length → (rd_T70 cs i).f3.f2.length ≤ 9223372036854775807 := fun i hi => by
      obtain ⟨ad, E7, e7, E8, e8, _, _, _, _, _, _, _, _, _, _, _, g7, _⟩ := at_T70 hC i (by omega) (by omega)
      exact g7.2.1
    have HS := Lib.hid (And.intro hs (And.intro hrow (And.intro hopn (And.intro hC (And.intro hcs hK)))))
    have HRD := Lib.hid (And.intro hrd hlens)
    clear hs hrow hopn hC hcs hK hrd hlens
    go_wp2_with fail
    have hbk : (w1.alloc (.cells #[.slice A1 cs.length c1, .map none] 58)).heap[w1.heap.size]? = some (.cells #[.slice A1 cs.length c1, .map none] 58 (0, 0)) := blk_new w1 _
    refine (made_walk w1 _ w1.heap.size cs A1 c1 hcap (by omega) HS.out.2.2.2.1 (below_alloc (Below.refl _ _) _) (Nat.le_refl _) hbk HRD.out.2 HS.out.2.2.2.2.2).mono ?_
    clear hbk
    rintro e w2 ⟨ho, hm⟩
    have HW2 := Lib.hid (And.intro ho hm)
    clear ho hm
    cases hmd : madeB cs with
    | none =>
      have hB2 : Below w.heap.size w w2 := HW1.out.1.trans ((below_alloc (Below.refl w1.heap.size w1) _).trans (HW2.out.1.below (by simp) fun b q => Nat.le_of_eq q.symm) |>.mono HW1.out.1.size)
      have he : e = .returned (.bool false) := by
        have := HW2.out.2
        unfold MadeEnd at this
        rw [hmd] at this
        exact this
      subst he
      have HM := Lib.hid (And.intro hmd hB2)
      clear hmd hB2
      go_wp2_with fail
      refine ⟨_, results_tmp3 rfl _ _ _, ?_⟩
      exact (OrdPost.none1 HRD.out.1 HM.out.1 HM.out.2 : OrdPost w l0 (.returned (.tuple #[.slice none 0 0, .bool false, .int .i64 0])) w2)
    | some mk =>
      obtain ⟨he, hbk⟩ : e = .returned (.bool true) ∧ BookAt w2 w1.heap.size cs mk A1 c1 (w1.heap.size + 1) := by
        have := HW2.out.2
        unfold MadeEnd at this
        rw [hmd] at this
        simpa using this
      subst he
      have HM := Lib.hid (And.intro hmd hbk)
      clear hmd hbk
      have hm1 := run_makeInts cs.length (by omega)
      have hm2 := run_makeRows cs.length (by omega)
      go_wp2_with fail
      obtain ⟨b1, hb1⟩ : ∃ b1, b1 = w1.heap.size := ⟨_, rfl⟩
      rw [← hb1]
      obtain ⟨N, hN⟩ : ∃ N, N = w2.heap.size := ⟨_, rfl⟩
      have HB1 := Lib.hid (And.intro hb1 hN)
      have HBK : Hid (BookAt w2 b1 cs mk A1 c1 (w1.heap.size + 1)) := Lib.hid (by rw [hb1]; exact HM.out.2)
      clear hb1 hm1 hm2 hN
      refine wp_loop (fun a W => ∃ (u10 u11 u37 u38 u39 u40 u41 u42 u60 : Value) (ds : List Deferred), (∃ i : Nat, i ≤ cs.length ∧ u37 = .int .i64 i ∧ L1 N w2 W cs mk i ds) ∧
        a = { tmps := #[.slice A l0.length c, undef, .slice none 0 0, .bool false, .int .i64 0, .slice A1 cs.length c1, .bool true, .pointer (some ⟨b1, 0, none⟩), .pointer (some ⟨N + 1, 0, none⟩), .pointer (some ⟨N + 3, 0, none⟩), u10, u11, undef, undef, undef, undef, .tuple #[.slice A1 cs.length c1, .bool true], .slice A l0.length c, .tuple #[.slice A1 cs.length c1, .bool true], .slice A1 cs.length c1, .bool true, .bool true, .bool false, .slice A1 cs.length c1, .agg #[.slice A1 cs.length c1, .map none], .pointer (some ⟨b1, 0, none⟩), .pointer (some ⟨b1, 0, none⟩), .bool true, .bool false, .slice A1 cs.length c1, .int .i64 (cs.length : Nat), .slice (some ⟨N, 0, none⟩) cs.length cs.length, .slice A1 cs.length c1, .int .i64 (cs.length : Nat), .slice (some ⟨N + 2, 0, none⟩) cs.length cs.length, .slice A1 cs.length c1, .int .i64 (cs.length : Nat), u37, u38, u39, u40, u41, u42, undef, undef, undef, undef, undef, undef, undef, undef, undef, undef, undef, undef, undef, undef, undef, undef, undef, u60, undef, undef, undef, undef, undef, undef, undef, undef, undef, undef, undef, undef, undef, undef, undef, undef, undef, undef, undef, undef, undef, undef, undef, undef, undef, undef, undef, undef, undef, undef, undef, undef, undef, undef, undef, undef, undef], defers := ds }) (fun a _ => cs.length - (intOf (a.tmps.getD 37 undef)).toNat) ?_ ?_
      · rw [← HB1.out.2]
        refine ⟨_, _, _, _, _, _, _, _, _, [], ⟨0, Nat.zero_le _, rfl, ?_, ?_, Marks.nil _ _⟩, rfl⟩
        · have := KMem.start (w := w2) cs.length
          simp only [List.toArray_replicate] at this
          rw [← HB1.out.2] at this
          exact this
        · rw [HB1.out.2]
          exact below_alloc (below_alloc (below_alloc (below_alloc (Below.refl _ _) _) _) _) _
      · rintro _ wr ⟨u10, u11, u37, u38, u39, u40, u41, u42, u60, ds, ⟨i, hi, rfl, hL⟩, rfl⟩
        have HL := Lib.hid hL
        clear hL
        by_cases hlt : i < cs.length
        · have hlD : decide ((i : Int) < (cs.length : Int)) = true := by simp; omega
          have hlN : decide (i < cs.length) = true := by simp; omega
          go_wp2_with fail
          have hB0 : Below w2.heap.size w2 (wr.alloc (.cells #[.int .i64 i] 3)) := by have := HL.out.below; rw [HB1.out.2] at this; exact below_alloc this _
          refine (behind_calls HBK.out hB0 i hlt).mono ?_
          rintro e w3 ⟨rfl, hB3, hsz3, E7, e7, E8, e8, l7, g7, hlaid⟩
          have hsz : w3.heap.size = wr.heap.size + 4 := by rw [hsz3]; simp
          have HW3 := Lib.hid (And.intro hB0 (And.intro hB3 (And.intro hsz (And.intro l7 (And.intro g7 hlaid)))))
          clear hB0 hB3 hsz3 hsz l7 g7 hlaid
          go_wp2_with fail
          refine (wpIn_wide (n := 9)).1 (wpIn_rangeFunc_ownG (F := Fence.wide) (n := 9) rfl (by omega) (gf := 46) (lb := #[.pointer (some ⟨wr.heap.size + 1, 0, none⟩), .pointer (some ⟨wr.heap.size + 1 + 1, 0, none⟩), .pointer (some ⟨wr.heap.size + 1 + 2, 0, none⟩)]) rfl trivial (enters_of Try.func46 (by kernel_rfl) rfl)
            (behind_stops 8 (by omega) w2 w3 (wr.heap.size + 1) b1 cs mk A1 c1 (w1.heap.size + 1) i hlt E7 e7 E8 e8 HS.out.2.2.2.2.2 HBK.out HW3.out.2.2.2.1 HW3.out.2.2.2.2.1 (below_step HW3.out.1 HW3.out.2.1) (by have := HW3.out.2.2.2.2.2; simpa using this))
            kpt (kpb (by have := HL.out.below.size; omega) (by have := HW3.out.2.2.1; omega)) (Below.refl _ _) (fun _ => rfl)
            (I1 N w2 cs mk i wr.heap.size ds) (fun _ _ _ => False) (I1_own N w2 cs mk i wr.heap.size ds w3 (by have := HL.out.below.size; have := HW3.out.2.2.1; have := HB1.out.2; omega) (by have := HB1.out.2; omega) (fun D hD => by have := HL.out.marks.lt hD; have := HW3.out.2.2.1; omega)) (fun _ _ _ _ _ q _ _ => q) ?start
            (fun x => { tmps := #[.slice A l0.length c, undef, .slice none 0 0, .bool false, .int .i64 0, .slice A1 cs.length c1, .bool true, .pointer (some ⟨b1, 0, none⟩), .pointer (some ⟨N + 1, 0, none⟩), .pointer (some ⟨N + 3, 0, none⟩), .pointer (some ⟨wr.heap.size, 0, none⟩), .int .i64 (x.1 : Int), undef, undef, undef, undef, .tuple #[.slice A1 cs.length c1, .bool true], .slice A l0.length c, .tuple #[.slice A1 cs.length c1, .bool true], .slice A1 cs.length c1, .bool true, .bool true, .bool false, .slice A1 cs.length c1, .agg #[.slice A1 cs.length c1, .map none], .pointer (some ⟨b1, 0, none⟩), .pointer (some ⟨b1, 0, none⟩), .bool true, .bool false, .slice A1 cs.length c1, .int .i64 (cs.length : Nat), .slice (some ⟨N, 0, none⟩) cs.length cs.length, .slice A1 cs.length c1, .int .i64 (cs.length : Nat), .slice (some ⟨N + 2, 0, none⟩) cs.length cs.length, .slice A1 cs.length c1, .int .i64 (cs.length : Nat), .int .i64 i, .bool true, .int .i64 i, .pointer (some ⟨b1, 0, none⟩), .int .i64 i, .func (.func 46) #[] #[.pointer (some ⟨wr.heap.size + 1, 0, none⟩), .pointer (some ⟨wr.heap.size + 1 + 1, 0, none⟩), .pointer (some ⟨wr.heap.size + 1 + 2, 0, none⟩)], .int .i64 (x.1 : Int), undef, undef, undef, undef, undef, undef, undef, undef, undef, undef, undef, undef, undef, undef, undef, undef, u60, undef, undef, undef, undef, undef, undef, undef, undef, undef, undef, undef, undef, undef, undef, undef, undef, undef, undef, undef, undef, undef, undef, undef, undef, undef, undef, undef, undef, undef, undef, undef, undef, undef, undef, undef, undef, undef], defers := [] }) ?assign ?body ?done ?stop)
          case start =>
            have hb2 : Below wr.heap.size wr w3 := (below_alloc (Below.refl _ _) _).trans (HW3.out.2.1.mono (by simp))
            refine ⟨(HL.out.mem.ok (fun b h1 h2 => ⟨h1, .inl h2⟩) fun b q => q.1).keep fun b _ hb _ => hb2.block b hb, blk_below (blk_new wr _) HW3.out.2.1, HL.out.below.trans (hb2.mono (by have := HL.out.below.size; have := HB1.out.2; omega)), HL.out.marks.keep fun b hb _ => hb2.block b hb, by have := HW3.out.2.2.1; omega⟩
          case assign =>
            intro l x W K hK
            gi_wp2
            exact hK
          case body =>
            rintro l pre x W hI1 hlen
            have HIW := Lib.hid hI1
            obtain ⟨hK1, hK2, hK3, hK4, hK5⟩ := hI1
            obtain ⟨ws, hws⟩ : ∃ ws, ws = (kputs i (pst cs mk i) pre).1 := ⟨_, rfl⟩
            obtain ⟨bs, hbs⟩ : ∃ bs, bs = (kputs i (pst cs mk i) pre).2 := ⟨_, rfl⟩
            have hwl : ws.length = cs.length := by rw [hws]; exact (kputs_len _ _ _).1.trans (pst_len cs mk i).1
            have hbl : bs.length = cs.length := by rw [hbs]; exact (kputs_len _ _ _).2.trans (pst_len cs mk i).2
            rw [← hws, ← hbs] at hK1
            have hx := x.2
            obtain ⟨k, hk⟩ : ∃ k, k = x.1 := ⟨_, rfl⟩
            rw [← hk] at hx ⊢
            have a0 := blk_cell hK1.w8 (i := 0) rfl
            have a1 := blk_cell hK2 (i := 0) rfl
            have a2 := blk_cell hK1.g8 (i := i) (show (i64s ws).toArray[i]? = some (.int .i64 (ws.getD i 0)) by simp [i64s, List.getElem?_eq_getElem (show i < ws.length by omega)])
            have f2 := blk_frozen hK1.g8 i
            rw [hwl] at a0
            have hlb : (bs.getD k []).length ≤ i * cs.length + pre.length := by rw [hbs]; have h1 := kputs_bound i (pst cs mk i) pre k; have h2 := pst_bound cs mk i k; omega
            have HI := Lib.hid (And.intro hK1 (And.intro hK2 (And.intro hK3 (And.intro hK4 (And.intro hws (And.intro hbs (And.intro hwl (And.intro hbl (And.intro hk (And.intro hK5 (And.intro hlb hlen)))))))))))
            clear hK1 hK2 hK3 hK4 hws hbs hwl hbl hk hlen hK5 hlb
            gi_wp2
            refine nameWI ?_
            intro V hV
            have hK1 := HI.out.1.setW i (wrap64 (ws.getD i 0 + 1))
            rw [← List.getD_eq_getElem?_getD] at hV
            rw [← hV] at hK1
            obtain ⟨vs, hR⟩ := hK1.g9
            obtain ⟨v, hv⟩ : ∃ v, vs[k]? = some v := ⟨_, List.getElem?_eq_getElem (by rw [hR.len, HI.out.2.2.2.2.2.2.2.1]; exact hx)⟩
            have hrow := hR.row k v (bs.getD k []) hv (by rw [List.getD_eq_getElem?_getD, List.getElem?_eq_getElem (by rw [HI.out.2.2.2.2.2.2.2.1]; exact hx)]; rfl)
            obtain ⟨l, hll⟩ : ∃ l, l = bs.getD k [] := ⟨_, rfl⟩
            rw [← hll] at hrow
            obtain ⟨Ak, ck, rfl⟩ := own_slice hrow
            have hxb : V.heap[wr.heap.size]? = some (.cells #[.int .i64 (i : Int)] 3 (0, 0)) := by
              rw [hV]
              exact blk_far HI.out.2.1 (a := ⟨N, i, none⟩) (by have := blk_lt HL.out.mem.w9; simp; omega) _
            have b0 := blk_cell hK1.w9 (i := 0) rfl
            have b2 := blk_cell hxb (i := 0) rfl
            have b3 := blk_cell hR.blk (i := k) (show vs.toArray[k]? = some _ by simpa using hv)
            have g3 := blk_frozen hR.blk k
            have l1 := blk_lt hK1.w9
            have l2 := blk_lt hxb
            have l3 := blk_lt hR.blk
            rw [HI.out.2.2.2.2.2.2.2.1] at b0
            have hkD : decide ((k : Int) < (cs.length : Int)) = true := by simp; omega
            have hne : ∀ b, b < N + 4 → some b ≠ (Value.slice Ak l.length ck).ownBlock := fun b hb e => by have := hK1.no b (hR.ok k _ b hv e.symm); omega
            have HNE := Lib.hid hne
            have HNX : Hid (some wr.heap.size ≠ (Value.slice Ak l.length ck).ownBlock) := Lib.hid (fun e => by have := hR.ok k _ wr.heap.size hv e.symm; omega)
            have HB0 : Hid (V.heap[N + 3]? = some (.cells #[.slice (some ⟨N + 2, 0, none⟩) cs.length cs.length] 59 (0, 0))) := Lib.hid (by have := hK1.w9; rw [HI.out.2.2.2.2.2.2.2.1] at this; exact this)
            clear hne
            have HR := Lib.hid (And.intro hK1 (And.intro hR (And.intro hv (And.intro hrow (And.intro hxb (And.intro hV hll))))))
            clear hK1 hR hv hrow hxb hV hll a0 a1 a2 f2
            obtain ⟨i0, hi0, hz0, hz1, hz2⟩ := info_parts info3
            have HIN := Lib.hid (And.intro hi0 (And.intro hz0 (And.intro hz1 hz2)))
            clear hi0 hz0 hz1 hz2
            refine wpIn_round_held (S := fun w' => w'.cell? ⟨N + 3, 0, none⟩ = some (.slice (some ⟨N + 2, 0, none⟩) cs.length cs.length) ∧ w'.cell? ⟨wr.heap.size, 0, none⟩ = some (.int .i64 i)) (by kernel_rfl) (by kernel_rfl) (fun _ _ q => q) ?_
            refine wpAnyH_take (i := 0) (v := .slice (some ⟨N + 2, 0, none⟩) cs.length cs.length) rfl (by kernel_rfl) (by kernel_rfl) (by kernel_rfl) (fun _ _ _ h => h) (Or.inl ⟨by rfl, fun w' hw' => by obtain ⟨s1, s2⟩ := hw'; go_simp⟩) ⟨b0, b2⟩ ?_
            refine wpAnyH_take (i := 1) (v := .int .i64 k) rfl (by kernel_rfl) (by kernel_rfl) (by kernel_rfl) (fun _ _ _ h => h) (Or.inl ⟨by rfl, fun w' hw' => by obtain ⟨s1, s2⟩ := hw'; go_simp⟩) ⟨b0, b2⟩ ?_
            refine wpAnyH_take (i := 2) (v := .slice (some ⟨N + 2, 0, none⟩) cs.length cs.length) rfl (by kernel_rfl) (by kernel_rfl) (by kernel_rfl) (fun _ _ _ h => h) (Or.inl ⟨by rfl, fun w' hw' => by obtain ⟨s1, s2⟩ := hw'; go_simp⟩) ⟨b0, b2⟩ ?_
            refine wpAnyH_take (i := 3) (v := .int .i64 k) rfl (by kernel_rfl) (by kernel_rfl) (by kernel_rfl) (fun _ _ _ h => h) (Or.inl ⟨by rfl, fun w' hw' => by obtain ⟨s1, s2⟩ := hw'; go_simp⟩) ⟨b0, b2⟩ ?_
            refine wpAnyH_take (i := 4) (v := .pointer (some ⟨N + 2, k, none⟩)) rfl (by kernel_rfl) (by kernel_rfl) (by kernel_rfl) (fun _ _ _ h => h) (Or.inl ⟨by rfl, fun w' hw' => by obtain ⟨s1, s2⟩ := hw'; go_simp⟩) ⟨b0, b2⟩ ?_
            refine wpAnyH_take (i := 6) (v := .int .i64 i) rfl (by kernel_rfl) (by kernel_rfl) (by kernel_rfl) (fun _ _ _ h => h) (Or.inl ⟨by rfl, fun w' hw' => by obtain ⟨s1, s2⟩ := hw'; go_simp⟩) ⟨b0, b2⟩ ?_
            have hlb2 : i * cs.length ≤ 64 * 64 := Nat.mul_le_mul (by omega) h64
            have HLB : Hid (l.length + 1 ≤ maxLen ∧ (l.length + 1) * 8 ≤ 140737488355328) := Lib.hid (by have h1 := HI.out.2.2.2.2.2.2.2.2.2.2.1; have h2 := HI.out.2.2.2.2.2.2.2.2.2.2.2; rw [← HR.out.2.2.2.2.2.2] at h1; unfold maxLen; exact ⟨by omega, by omega⟩)
            clear hlb2
            refine wpAnyH_two (i := 5) (k := 7) (by kernel_rfl) rfl rfl (by rfl) (by rfl) ?_ ?_
            · intro K hK
              go_simp
              refine hK _ _ ⟨b0, b2⟩ ?_
              clear hK K
              refine wpAnyH_step (i := 7) (by kernel_rfl) rfl (by rfl) ?_
              intro K hK
              go_simp
              refine hK _ _ ⟨blk_cell (by first | exact blk_alloc HB0.out _ | exact blk_drew (blk_alloc HB0.out _)) (i := 0) rfl, blk_cell (by first | exact blk_alloc HR.out.2.2.2.2.1 _ | exact blk_drew (blk_alloc HR.out.2.2.2.2.1 _)) (i := 0) rfl⟩ ?_
              clear hK K
              refine wpAnyH_step (i := 8) (by kernel_rfl) rfl (by rfl) ?_
              intro K hK
              refine wp_app _ (.tmp 55) (.tmp 57) 25 rfl 0 3 i0 (.int .i64 0) 1 8 Try.underlying25 HIN.out.1 HIN.out.2.1 HIN.out.2.2.1 HIN.out.2.2.2 rfl (by decide) (.slice Ak l.length ck) l.length (i64s l) rfl (by first | exact HR.out.2.2.2.1.alloc _ | exact own_drew (HR.out.2.2.2.1.alloc _) | exact World.ownsRow.alloc (own_drew HR.out.2.2.2.1) _) V.heap.size 1 1 [.int .i64 (i : Int)] 3 (0, 0) rfl (by first | exact blk_new V _ | exact blk_drew (blk_new V _)) rfl (by simp [Value.oneCell']) HLB.out.1 HLB.out.2 (Nat.zero_le _) ?_
              intro A9 C9 w9 ho9 hg9 hat9
              have q0 := blk_cell (blk_grown (by first | exact blk_alloc HR.out.1.w9 _ | exact blk_drew (blk_alloc HR.out.1.w9 _)) hg9 (HNE.out _ (by omega))) (i := 0) rfl
              have qb := blk_grown (by first | exact blk_alloc HR.out.2.1.blk _ | exact blk_drew (blk_alloc HR.out.2.1.blk _)) hg9 (HNE.out _ (by omega))
              have qx := blk_cell (blk_grown (by first | exact blk_alloc HR.out.2.2.2.2.1 _ | exact blk_drew (blk_alloc HR.out.2.2.2.2.1 _)) hg9 HNX.out) (i := 0) rfl
              have q3 := blk_cell qb (i := k) (show vs.toArray[k]? = some _ by simpa using HR.out.2.2.1)
              have q4 := blk_frozen qb k
              rw [HI.out.2.2.2.2.2.2.2.1] at q0
              have H9 := Lib.hid (And.intro ho9 (And.intro hg9 hat9))
              have HQ := Lib.hid (And.intro q0 qx)
              clear qb ho9 hg9 hat9
              refine hK _ _ ⟨q0, qx⟩ ?_
              clear hK K
              refine wpAnyH_step (i := 9) (by kernel_rfl) rfl (by rfl) ?_
              intro K hK
              go_simp
              refine hK _ _ ⟨HQ.out.1, HQ.out.2⟩ ?_
              clear hK K
              refine wpAnyH_step (i := 10) (by kernel_rfl) rfl (by rfl) ?_
              intro K hK
              go_simp
              refine hK _ _ ⟨(World.cell?_of_block (w := w9) (Below.heap_setCell w9 ⟨N + 2, k, none⟩ _ (N + 3) (by simp))).trans HQ.out.1, (World.cell?_of_block (w := w9) (Below.heap_setCell w9 ⟨N + 2, k, none⟩ _ wr.heap.size (by have := blk_lt HL.out.mem.w9; simp; omega))).trans HQ.out.2⟩ ?_
              clear hK K
              refine wpAnyH_done (by kernel_rfl) ?_ _
              have hfin := I1_next (B := w3.heap.size) HIW.out HB1.out.2 (by have := blk_lt HL.out.mem.w9; omega) HI.out.2.2.2.2.1 HI.out.2.2.2.2.2.1 (by rw [← HR.out.2.2.2.2.2.1]; exact HR.out.2.1) (y := x) (by rw [← HI.out.2.2.2.2.2.2.2.2.1]; exact HR.out.2.2.1) (l := l) (by rw [← HI.out.2.2.2.2.2.2.2.2.1]; exact HR.out.2.2.2.2.2.2) (by rw [← HR.out.2.2.2.2.2.1]; first | exact below_alloc (Below.refl _ _) _ | exact below_drew1 (below_alloc (Below.refl _ _) _)) (by rw [← HR.out.2.2.2.2.2.1]; first | exact KeepsOthers.alloc _ _ | exact (KeepsOthers.alloc _ _).trans (KeepsOthers.drew _)) H9.out.2.1 H9.out.1 (by simpa using H9.out.2.2)
              rw [← HI.out.2.2.2.2.2.2.2.2.1] at hfin
              exact hfin
            · intro K hK
              go_simp
              refine hK _ _ ⟨blk_cell (by first | exact blk_alloc HB0.out _ | exact blk_drew (blk_alloc HB0.out _)) (i := 0) rfl, blk_cell (by first | exact blk_alloc HR.out.2.2.2.2.1 _ | exact blk_drew (blk_alloc HR.out.2.2.2.2.1 _)) (i := 0) rfl⟩ ?_
              clear hK K
              refine wpAnyH_step (i := 5) (by kernel_rfl) rfl (by rfl) ?_
              intro K hK
              go_simp
              refine hK _ _ ⟨blk_cell (by first | exact blk_alloc HB0.out _ | exact blk_drew (blk_alloc HB0.out _)) (i := 0) rfl, blk_cell (by first | exact blk_alloc HR.out.2.2.2.2.1 _ | exact blk_drew (blk_alloc HR.out.2.2.2.2.1 _)) (i := 0) rfl⟩ ?_
              clear hK K
              refine wpAnyH_step (i := 8) (by kernel_rfl) rfl (by rfl) ?_
              intro K hK
              refine wp_app _ (.tmp 55) (.tmp 57) 25 rfl 0 3 i0 (.int .i64 0) 1 8 Try.underlying25 HIN.out.1 HIN.out.2.1 HIN.out.2.2.1 HIN.out.2.2.2 rfl (by decide) (.slice Ak l.length ck) l.length (i64s l) rfl (by first | exact HR.out.2.2.2.1.alloc _ | exact own_drew (HR.out.2.2.2.1.alloc _) | exact World.ownsRow.alloc (own_drew HR.out.2.2.2.1) _) V.heap.size 1 1 [.int .i64 (i : Int)] 3 (0, 0) rfl (by first | exact blk_new V _ | exact blk_drew (blk_new V _)) rfl (by simp [Value.oneCell']) HLB.out.1 HLB.out.2 (Nat.zero_le _) ?_
              intro A9 C9 w9 ho9 hg9 hat9
              have q0 := blk_cell (blk_grown (by first | exact blk_alloc HR.out.1.w9 _ | exact blk_drew (blk_alloc HR.out.1.w9 _)) hg9 (HNE.out _ (by omega))) (i := 0) rfl
              have qb := blk_grown (by first | exact blk_alloc HR.out.2.1.blk _ | exact blk_drew (blk_alloc HR.out.2.1.blk _)) hg9 (HNE.out _ (by omega))
              have qx := blk_cell (blk_grown (by first | exact blk_alloc HR.out.2.2.2.2.1 _ | exact blk_drew (blk_alloc HR.out.2.2.2.2.1 _)) hg9 HNX.out) (i := 0) rfl
              have q3 := blk_cell qb (i := k) (show vs.toArray[k]? = some _ by simpa using HR.out.2.2.1)
              have q4 := blk_frozen qb k
              rw [HI.out.2.2.2.2.2.2.2.1] at q0
              have H9 := Lib.hid (And.intro ho9 (And.intro hg9 hat9))
              have HQ := Lib.hid (And.intro q0 qx)
              clear qb ho9 hg9 hat9
              refine hK _ _ ⟨q0, qx⟩ ?_
              clear hK K
              refine wpAnyH_step (i := 9) (by kernel_rfl) rfl (by rfl) ?_
              intro K hK
              go_simp
              refine hK _ _ ⟨HQ.out.1, HQ.out.2⟩ ?_
              clear hK K
              refine wpAnyH_step (i := 10) (by kernel_rfl) rfl (by rfl) ?_
              intro K hK
              go_simp
              refine hK _ _ ⟨(World.cell?_of_block (w := w9) (Below.heap_setCell w9 ⟨N + 2, k, none⟩ _ (N + 3) (by simp))).trans HQ.out.1, (World.cell?_of_block (w := w9) (Below.heap_setCell w9 ⟨N + 2, k, none⟩ _ wr.heap.size (by have := blk_lt HL.out.mem.w9; simp; omega))).trans HQ.out.2⟩ ?_
              clear hK K
              refine wpAnyH_done (by kernel_rfl) ?_ _
              have hfin := I1_next (B := w3.heap.size) HIW.out HB1.out.2 (by have := blk_lt HL.out.mem.w9; omega) HI.out.2.2.2.2.1 HI.out.2.2.2.2.2.1 (by rw [← HR.out.2.2.2.2.2.1]; exact HR.out.2.1) (y := x) (by rw [← HI.out.2.2.2.2.2.2.2.2.1]; exact HR.out.2.2.1) (l := l) (by rw [← HI.out.2.2.2.2.2.2.2.2.1]; exact HR.out.2.2.2.2.2.2) (by rw [← HR.out.2.2.2.2.2.1]; first | exact below_alloc (Below.refl _ _) _ | exact below_drew1 (below_alloc (Below.refl _ _) _)) (by rw [← HR.out.2.2.2.2.2.1]; first | exact KeepsOthers.alloc _ _ | exact (KeepsOthers.alloc _ _).trans (KeepsOthers.drew _)) H9.out.2.1 H9.out.1 (by simpa using H9.out.2.2)
              rw [← HI.out.2.2.2.2.2.2.2.2.1] at hfin
              exact hfin
          case done =>
            rintro D xs W hD rfl ⟨hK1, hK2, hK3, hK4, _⟩ hK
            have HD := Lib.hid (And.intro hD (And.intro hK1 (And.intro hK2 (And.intro hK3 (And.intro hK4 hK)))))
            clear hD hK1 hK2 hK3 hK4 hK
            go_wp2_with fail
            refine ⟨⟨_, _, _, _, _, _, _, _, _, _, ⟨i + 1, hlt, by go_num, HD.out.2.1.ok (fun b q _ => q.1) (fun _ q => q), HD.out.2.2.2.1, HL.out.marks.cons HD.out.2.2.2.2.1 (by have := HD.out.1; have := HW3.out.2.2.1; omega) (by have := HD.out.1; have := HW3.out.2.2.1; have := blk_lt HL.out.mem.w9; omega) HD.out.2.2.2.2.2⟩, rfl⟩, ?_⟩
            simp [intOf]
            omega
          case stop =>
            rintro D c pre W _ _ h _
            exact h.elim
        · obtain rfl : i = cs.length := by omega
          have hlD : decide ((cs.length : Int) < (cs.length : Int)) = false := by simp
          obtain ⟨ws0, hws0⟩ : ∃ ws0, ws0 = (pst cs mk cs.length).1 := ⟨_, rfl⟩
          obtain ⟨bs, hbs⟩ : ∃ bs, bs = (pst cs mk cs.length).2 := ⟨_, rfl⟩
          have hwl0 : ws0.length = cs.length := by rw [hws0]; exact (pst_len cs mk _).1
          have hbl0 : bs.length = cs.length := by rw [hbs]; exact (pst_len cs mk _).2
          have hrng : inR cs.length bs := by rw [hbs]; exact pst_inR cs mk _ (Nat.le_refl _)
          obtain ⟨wE, rfl⟩ : ∃ wE : World, wE = wr := ⟨_, rfl⟩
          have hsE : N + 4 ≤ wE.heap.size := by have := blk_lt HL.out.mem.w9; omega
          have hK0 : K2 N w2 wE wE ws0 bs [] (.slice none 0 0) ds := ⟨by have := HL.out.mem; rw [← hws0, ← hbs] at this; exact this.ok (fun b h1 h2 => ⟨h1, h2⟩) fun b q => q.1, World.ownsRow_nil _ _ _ _, HL.out.below, HL.out.marks, Nat.le_refl _⟩
          have OB : Hid (∀ W W' : World, Below N w2 W → Only W W' (fun b => N + 4 ≤ b ∧ ∃ o : Obj, W.heap[b]? = some o ∧ o.isCells = false) → Below w.heap.size w W') := Lib.hid (fun W W' h1 h2 => by
            have hB2 : Below w.heap.size w w2 := HW1.out.1.trans ((below_alloc (Below.refl w1.heap.size w1) _).trans (HW2.out.1.below (by simp) fun b q => Nat.le_of_eq q.symm) |>.mono HW1.out.1.size)
            have := hB2.size
            have := HB1.out.2
            exact (hB2.trans (h1.mono (by omega))).trans (h2.below (by have := h1.size; omega) fun b q => by have := q.1; omega))
          have HP := Lib.hid (And.intro hws0 (And.intro hbs (And.intro hwl0 (And.intro hbl0 (And.intro hrng (And.intro hsE hK0))))))
          clear hws0 hbs hwl0 hbl0 hrng hsE hK0
          go_wp2_with fail
          go_loopw [12] (fun s12 W => ∃ (j : Nat) (os : List Nat) (ws : List Int), j ≤ cs.length ∧ kat bs ws0 j = some (os, ws) ∧ K2 N w2 wE W ws bs (froms cs os) s12 ds) (fun s12 _ => match s12 with | .slice _ n _ => cs.length - n | _ => 0)
          case atStart => exact ⟨0, [], ws0, Nat.zero_le _, rfl, HP.out.2.2.2.2.2.2⟩
          case round =>
            obtain ⟨j, os, ws, hj, hat, hK⟩ := hrel
            obtain ⟨ho1, ho2, ho3⟩ := kat_len _ _ hat
            dsimp only at ho1 ho2 ho3
            have hwl : ws.length = cs.length := ho2.trans HP.out.2.2.1
            have hfl : (froms cs os).length = j := by unfold froms; rw [List.length_map]; exact ho1
            obtain ⟨A12, c12, rfl⟩ := own_slice hK.row
            have a0 := blk_cell hK.mem.w8 (i := 0) rfl
            rw [hwl] at a0
            rw [hfl]
            have hN2 : N ≤ wr.heap.size := by have := hK.size; have := HP.out.2.2.2.2.2.1; omega
            have HK := Lib.hid (And.intro hat (And.intro hK (And.intro ho3 (And.intro hwl (And.intro hfl hN2)))))
            clear hat hK ho1 ho2 ho3 hwl hfl hN2
            by_cases hlt : j < cs.length
            · have hlD : decide ((j : Int) < (cs.length : Int)) = true := by simp; omega
              have hlN : decide (j < cs.length) = true := by simp; omega
              have hix := index_calls (some ⟨N, 0, none⟩) ws.length ws 0 (HK.out.2.1.mem.reads (by have := HK.out.2.2.2.1; omega)) (Nat.le_refl _) (by have := HK.out.2.2.2.1; omega)
              rw [HK.out.2.2.2.1] at hix
              cases hidx : idx ws 0 with
              | none =>
                rw [hidx] at hix
                simp only [idxI] at hix
                have HX := Lib.hid hidx
                clear hidx
                go_wp2_with fail
                refine hix.mono ?_
                rintro e w4 ⟨rfl, ⟨nd, rfl⟩⟩
                have hK4 : K2 N w2 wE (wr.drewN nd) ws bs (froms cs os) (.slice A12 (froms cs os).length c12) ds := HK.out.2.1.of (pw_below_drewN (Below.refl _ _) _) HK.out.2.2.2.2.2
                have HK4 := Lib.hid hK4
                clear hix hK4
                go_wp2_with fail
                refine leaves_marks ds _ HK4.out.marks ?_
                intro W' ho
                refine ⟨_, results_tmp3 rfl _ _ _, ?_⟩
                have hB := OB.out _ _ HK4.out.below ho
                have hfin : OrdPost w l0 (.returned (.tuple #[.slice none 0 0, .bool false, .int .i64 0])) W' := OrdPost.none2 HRD.out.1 HM.out.1 (ordB_none hlt (by rw [← HP.out.1, ← HP.out.2.1]; exact HK.out.1) HX.out) hB
                exact hfin
              | some i =>
                rw [hidx] at hix
                simp only [idxI] at hix
                have HX := Lib.hid hidx
                have hic : i < cs.length := by have := (idx_some hidx).1; have := HK.out.2.2.2.1; omega
                clear hidx
                go_wp2_with fail
                refine hix.mono ?_
                rintro e w4 ⟨rfl, ⟨nd, rfl⟩⟩
                have hK4 : K2 N w2 wE (wr.drewN nd) ws bs (froms cs os) (.slice A12 (froms cs os).length c12) ds := HK.out.2.1.of (pw_below_drewN (Below.refl _ _) _) HK.out.2.2.2.2.2
                have HK4 := Lib.hid hK4
                clear hix hK4
                have hiD : decide ((i : Int) < (cs.length : Int)) = true := by simp; omega
                have c8 := blk_cell HK4.out.mem.g8 (i := i) (show (i64s ws).toArray[i]? = some (.int .i64 (ws.getD i 0)) by have := HK.out.2.2.2.1; simp [i64s, List.getElem?_eq_getElem (show i < ws.length by omega)])
                have f8 := blk_frozen HK4.out.mem.g8 i
                have a9 := blk_cell HK4.out.mem.w9 (i := 0) rfl
                rw [HP.out.2.2.2.1] at a9
                obtain ⟨vs, hR⟩ := HK4.out.mem.g9
                obtain ⟨v, hv⟩ : ∃ v, vs[i]? = some v := ⟨_, List.getElem?_eq_getElem (by rw [hR.len, HP.out.2.2.2.1]; exact hic)⟩
                have hrow := hR.row i v (bs.getD i []) hv (by rw [List.getD_eq_getElem?_getD, List.getElem?_eq_getElem (by rw [HP.out.2.2.2.1]; exact hic)]; rfl)
                obtain ⟨l, hll⟩ : ∃ l, l = bs.getD i [] := ⟨_, rfl⟩
                rw [← hll] at hrow
                have hlb : l.length ≤ 4096 := by
                  have h1 := pst_bound cs mk cs.length i
                  have h2 : cs.length * cs.length ≤ 64 * 64 := Nat.mul_le_mul h64 h64
                  rw [hll, HP.out.2.1]
                  omega
                obtain ⟨Ai, ci, rfl⟩ := own_slice hrow
                have b3 := blk_cell hR.blk (i := i) (show vs.toArray[i]? = some _ by simpa using hv)
                have HL3 := Lib.hid (And.intro hR (And.intro hv (And.intro hrow hll)))
                clear hR hv hrow hll
                go_wp2_with fail
                obtain ⟨wo, rfl⟩ : ∃ wo : World, wo = wr := ⟨_, rfl⟩
                clear a0 c8 f8 a9 b3
                go_loopw [78] (fun s78 W => ∃ q : Nat, q ≤ l.length ∧ s78 = .int .i64 q ∧ K2 N w2 wE W ((l.take q).foldl dec1 (ws.set i (-1))) bs (froms cs os) (.slice A12 (froms cs os).length c12) ds ∧ RowsAt W (N + 2) bs (fun b => N + 4 ≤ b ∧ b < wE.heap.size) vs) (fun s78 _ => l.length - (intOf s78).toNat)
                case atStart =>
                  refine ⟨0, Nat.zero_le _, rfl, HK4.out.setW (by have := HP.out.2.2.2.2.2.1; omega) i (-1), HL3.out.1.keep fun b hb _ _ => Below.heap_setCell (wo.drewN nd) ⟨N, i, none⟩ _ b ?_⟩
                  rcases hb with rfl | q
                  · simp
                  · have := q.1; simp; omega
                case round =>
                  obtain ⟨q, hq, rfl, hKq, hRq⟩ := hrel
                  obtain ⟨wq, hwq⟩ : ∃ wq, wq = (l.take q).foldl dec1 (ws.set i (-1)) := ⟨_, rfl⟩
                  rw [← hwq] at hKq
                  have hwql : wq.length = cs.length := by rw [hwq, dec_len, List.length_set]; exact HK.out.2.2.2.1
                  have HQ := Lib.hid (And.intro hKq (And.intro hRq (And.intro hwq hwql)))
                  clear hKq hRq hwq hwql
                  by_cases hql : q < l.length
                  · have hqD : decide ((q : Int) < (l.length : Int)) = true := by simp; omega
                    have hqN : decide (q < l.length) = true := by simp; omega
                    obtain ⟨x, hx⟩ : ∃ x, l[q]? = some x := ⟨_, List.getElem?_eq_getElem hql⟩
                    have hxr := HP.out.2.2.2.2.1 i x (by rw [← HL3.out.2.2.2]; exact List.mem_of_getElem? hx)
                    obtain ⟨k, rfl⟩ : ∃ k : Nat, x = k := ⟨x.toNat, by omega⟩
                    have hkl : k < cs.length := by omega
                    have hro := HQ.out.2.1.row i _ l HL3.out.2.1 (by rw [HL3.out.2.2.2, List.getD_eq_getElem?_getD, List.getElem?_eq_getElem (by rw [HP.out.2.2.2.1]; exact hic)]; rfl)
                    obtain ⟨gi, ci2, hvi, hcell, _, _⟩ := own_cell hro (i := q) (show (i64s l)[q]? = some (.int .i64 (k : Nat)) by simp [i64s, hx])
                    injection hvi with h1 _ h3
                    subst h1
                    subst h3
                    have a0 := blk_cell HQ.out.1.mem.w8 (i := 0) rfl
                    rw [HQ.out.2.2.2] at a0
                    have c8 := blk_cell HQ.out.1.mem.g8 (i := k) (show (i64s wq).toArray[k]? = some (.int .i64 (wq.getD k 0)) by have := HQ.out.2.2.2; simp [i64s, List.getElem?_eq_getElem (show k < wq.length by omega)])
                    have f8 := blk_frozen HQ.out.1.mem.g8 k
                    have hkD : decide ((k : Int) < (cs.length : Int)) = true := by simp; omega
                    have HX2 := Lib.hid hx
                    clear hx hxr hro
                    go_wp2_with fail
                    go_roundw
                    case rel =>
                      refine ⟨q + 1, by omega, by go_num, ?_, HQ.out.2.1.keep fun b hb _ _ => Below.heap_setCell wr ⟨N, k, none⟩ _ b ?_⟩
                      · rw [List.take_add_one, HX2.out, Option.toList_some, List.foldl_append, ← HQ.out.2.2.1]
                        have := HQ.out.1.setW (by have := HP.out.2.2.2.2.2.1; omega) k (wrap64 (wq.getD k 0 - 1))
                        simpa [dec1] using this
                      · rcases hb with rfl | q
                        · simp
                        · have := q.1; simp; omega
                    case measure => simp [intOf]; omega
                  · obtain rfl : q = l.length := by omega
                    have hqD : decide ((l.length : Int) < (l.length : Int)) = false := by simp
                    obtain ⟨ad, E7, e7, E8, e8, hA, y0, _⟩ := at_T70 HBK.out.row i (by omega) (by omega)
                    subst hA
                    simp only [Int.toNat_natCast] at y0
                    have hbw : Below w2.heap.size w2 wr := by have := HQ.out.1.below; rw [HB1.out.2] at this; exact this
                    replace y0 := (hbw.cell (World.block_lt_of_cell? w2 _ y0)).trans y0
                    clear hbw
                    have hu := Try.underlying65
                    have hrow9 : wr.ownsRow wE.heap.size 3 1 (.slice A12 j c12) j (i64s (froms cs os)) := by
                      have := HQ.out.1.row
                      rw [HK.out.2.2.2.2.1] at this
                      exact this
                    have HR9 := Lib.hid hrow9
                    obtain ⟨i0, hi0, hz0, hz1, hz2⟩ := info_parts info3
                    have HIN := Lib.hid (And.intro hi0 (And.intro hz0 (And.intro hz1 hz2)))
                    have HSZ := Lib.hid HQ.out.1.size
                    clear hi0 hz0 hz1 hz2 hrow9
                    go_wp2_with (refine wpl_app _ rfl (.tmp 89) (.tmp 95) 25 rfl wE.heap.size 3 i0 (.int .i64 0) 1 8 Try.underlying25 HIN.out.1 HIN.out.2.1 HIN.out.2.2.1 HIN.out.2.2.2 rfl (by decide) (.slice A12 j c12) j (i64s (froms cs os)) rfl (HR9.out.alloc _) wr.heap.size 1 1 [.int .i64 (rd_T70 cs i).f0] 3 (0, 0) rfl (blk_new wr _) rfl (by simp [Value.oneCell']) (by unfold maxLen; omega) (by omega) (by have := HSZ.out; simp; omega) ?_; intro A9 C9 w9 ho9 hg9 hat9; have H9 := Lib.hid (And.intro ho9 hg9); clear ho9 hg9 hat9)
                    go_roundw
                    case rel =>
                      refine ⟨j + 1, os ++ [i], l.foldl dec1 (ws.set i (-1)), hlt, ?_, ?_⟩
                      · show (kat bs ws0 j).bind (kstep bs) = _
                        rw [HK.out.1]
                        show kstep bs (os, ws) = _
                        unfold kstep
                        rw [HX.out, HL3.out.2.2.2]
                        rfl
                      · have h1 := HQ.out.1
                        rw [HQ.out.2.2.1, List.take_length] at h1
                        have h2 := h1.app (W1 := wr.alloc (.cells #[.int .i64 (rd_T70 cs i).f0] 3)) (W2 := w9) (x := (rd_T70 cs i).f0) (A := A9) (C := C9) HP.out.2.2.2.2.2.1 (below_alloc (Below.refl _ _) _) (by have := H9.out.2; rw [HK.out.2.2.2.2.1]; exact this) (by have := H9.out.1; rw [HK.out.2.2.2.2.1]; exact this)
                        rw [HK.out.2.2.2.2.1] at h2
                        have h3 : froms cs (os ++ [i]) = froms cs os ++ [(rd_T70 cs i).f0] := by simp [froms]
                        rw [h3]
                        exact h2
                    case measure => show cs.length - (j + 1) < cs.length - j; omega
            · obtain rfl : j = cs.length := by omega
              have hlD : decide ((cs.length : Int) < (cs.length : Int)) = false := by simp
              go_wp2_with fail
              refine leaves_marks ds _ HK.out.2.1.marks ?_
              intro W' ho
              refine ⟨_, results_tmp3 rfl _ _ _, ?_⟩
              have hB := OB.out _ _ HK.out.2.1.below ho
              have hfin : OrdPost w l0 (.returned (.tuple #[.slice A12 cs.length c12, .bool true, .int .i64 0])) W' := OrdPost.yes HRD.out.1 HM.out.1 (os := os) (by unfold ordB; rw [← HP.out.1, ← HP.out.2.1, HK.out.1]; rfl) hB (by
                have h1 := HK.out.2.1.row
                rw [HK.out.2.2.2.2.1] at h1 ⊢
                exact own_marks h1 ho (by have := HP.out.2.2.2.2.2.1; have := HB1.out.2; have := HW1.out.1.size; have := HW2.out.1.size; simp at this; omega))
              exact hfin
end Go.Proofs.Ytfahoomkpammiaa
namespace Go.Proofs.Ytfahoomkpammiaa
open Go.RowKit Go.MapKept Go.Proofs.YtfahoomkpammiaaW.PrintWords Go.Proofs.YtfahoomkpammiaaW.PrintLast Go.Proofs.YtfahoomkpammiaaW.PrintMore Go.Proofs.Ytfahoomkpammiaa.PHistOrders
open Classical in
noncomputable def checkP (l0 : List S45) : Int := if readB l0 = none then 230 else 0
set_option maxRecDepth 100000 in
theorem check_walk (w : World) (A : Option Addr) (c : Nat) (l0 : List S45) (hr : Kd.C k45 w A l0.length l0) (hc : l0.length ≤ c) (hl : l0.length ≤ 2147483647) :
    Calls Try.prog 21 #[.slice A l0.length c] w fun e w' => e = .returned (.int .i64 (checkP l0)) ∧ Below w.heap.size w w' := by
  have hrd := read_walk w A c l0 hr hc hl
  have HR := Lib.hid hrd
  clear hr hc hl hrd
  go_enter Try.func21, Try.ntmps21
  go_wp2_with fail
  refine HR.out.mono ?_
  rintro e w1 ⟨hb, v, ok, rfl, hend⟩
  have HB := Lib.hid hb
  cases ok with
  | false =>
    have hno : readB l0 = none := by
      cases q : rat l0 l0.length with
      | none => exact readB_none q
      | some s =>
        rw [q] at hend
        exact readB_no q fun k => by have := hend.2.2 k; cases this
    have hcp : checkP l0 = 230 := if_pos hno
    have HCP := Lib.hid hcp
    clear hb hend hno hcp
    go_wp2_with fail
    go_ret
    exact ⟨by rw [HCP.out]; rfl, HB.out⟩
  | true =>
    have hno : readB l0 ≠ none := by
      cases q : rat l0 l0.length with
      | none => rw [q] at hend; cases hend.2
      | some s => rw [q] at hend; rw [readB_yes q ⟨(hend.2.1 rfl).1, (hend.2.1 rfl).2⟩]; simp
    have hcp : checkP l0 = 0 := if_neg hno
    have HCP := Lib.hid hcp
    clear hb hend hno hcp
    go_wp2_with fail
    go_ret
    exact ⟨by rw [HCP.out]; rfl, HB.out⟩
def rcheckP (l0 : List S45) : Int := if (refB l0).isNone then 230 else 0
set_option maxRecDepth 100000 in
theorem rcheck_walk (w : World) (A : Option Addr) (c : Nat) (l0 : List S45) (hr : Kd.C k45 w A l0.length l0) (hc : l0.length ≤ c) (hl : l0.length ≤ 2147483647) :
    Calls Try.prog 22 #[.slice A l0.length c] w fun e w' => e = .returned (.int .i64 (rcheckP l0)) ∧ Below w.heap.size w w' := by
  have hrd := calls_walk w A c l0 hr hc hl
  have HR := Lib.hid hrd
  clear hr hc hl hrd
  go_enter Try.func22, Try.ntmps22
  go_wp2_with fail
  refine HR.out.mono ?_
  rintro e w1 ⟨hb, v, ok, rfl, hend⟩
  have HB := Lib.hid hb
  cases ok with
  | false =>
    have hcp : rcheckP l0 = 230 := by
      unfold rcheckP
      cases q : refB l0 with
      | none => rfl
      | some cs => rw [q] at hend; cases hend.2
    have HCP := Lib.hid hcp
    clear hb hend hcp
    go_wp2_with fail
    go_ret
    exact ⟨by rw [HCP.out]; rfl, HB.out⟩
  | true =>
    have hcp : rcheckP l0 = 0 := by
      unfold rcheckP
      cases q : refB l0 with
      | none => rw [q] at hend; cases hend.1
      | some cs => rfl
    have HCP := Lib.hid hcp
    clear hb hend hcp
    go_wp2_with fail
    go_ret
    exact ⟨by rw [HCP.out]; rfl, HB.out⟩
def livesA : S40 := ⟨1, 1, ⟨#[97]⟩⟩
def livesL : List S45 := [⟨0, true, livesA, z43⟩, ⟨1, true, livesA, z43⟩, ⟨0, false, livesA, z43⟩, ⟨1, false, livesA, ⟨true, ⟨#[]⟩, [], []⟩⟩]
def livesC : List S70 := [⟨0, 2, livesA, z43⟩, ⟨1, 3, livesA, ⟨true, ⟨#[]⟩, [], []⟩⟩]
theorem lives_read : readB livesL = some livesC := by
  have h : ∃ o, rat livesL livesL.length = some ⟨livesC, o⟩ ∧ ∀ k, o k = none := by
    refine ⟨upd1 (upd1 (upd1 (upd1 (fun _ => none) 0 (some 0)) 1 (some 1)) 0 none) 1 none, ?_, fun k => ?_⟩
    · kernel_rfl
    · unfold upd1
      dsimp only
      split
      · rfl
      · split
        · rfl
        · first | rfl | (split <;> first | rfl | (exfalso; omega) | (split <;> first | rfl | (exfalso; omega)))
  obtain ⟨o, h1, h2⟩ := h
  exact readB_yes h1 ⟨h2, by show livesC.length ≤ 64; decide⟩
theorem lives_ord : ordP livesL = some (some [1, 0]) := by
  unfold ordP
  rw [lives_read]
  show some ((madeB livesC).bind fun mk => (ordB livesC mk).map (froms livesC)) = some (some [1, 0])
  kernel_rfl
theorem lives_kind (W : World) (g : Nat) (hg : W.heap[g]? = some (.cells #[.int .i64 0, .bool true, .int .i64 1, .int .i64 1, .string ⟨#[97]⟩, .bool false, .string ⟨#[]⟩, .slice none 0 0, .slice none 0 0, .int .i64 1, .bool true, .int .i64 1, .int .i64 1, .string ⟨#[97]⟩, .bool false, .string ⟨#[]⟩, .slice none 0 0, .slice none 0 0,
      .int .i64 0, .bool false, .int .i64 1, .int .i64 1, .string ⟨#[97]⟩, .bool false, .string ⟨#[]⟩, .slice none 0 0, .slice none 0 0, .int .i64 1, .bool false, .int .i64 1, .int .i64 1, .string ⟨#[97]⟩, .bool true, .string ⟨#[]⟩, .slice none 0 0, .slice none 0 0] 45 (0, 0))) :
    Kd.C k45 W (some ⟨g, 0, none⟩) 4 livesL := by
  have h : OwnRow (k45.K W) 45 9 W g (.slice (some ⟨g, 0, none⟩) 4 4) livesL := by
    refine ⟨_, ⟨?_, .inr ⟨g, 4, _, rfl, Nat.le_refl _, hg, by decide, by decide, rfl, rfl⟩⟩, rfl, ?_⟩
    · rfl
    · have hk : ∀ m : S45, m.f3.f2 = [] → m.f3.f3 = [] → k45.K W m [.int .i64 m.f0, .bool m.f1, .int .i64 m.f2.f0, .int .i64 m.f2.f1, .string m.f2.f2, .bool m.f3.f0, .string m.f3.f1, .slice none 0 0, .slice none 0 0] := by
        rintro ⟨a, b, c, ⟨d, e, f, l⟩⟩ h1 h2
        cases h1
        cases h2
        exact k45_mk W _ (A7 := none) (c7 := 0) (Nat.le_refl _) (Kd.C_nil _ _) (A8 := none) (c8 := 0) (Nat.le_refl _) (Kd.C_nil _ _)
      intro j q hq
      match j, hq with
      | 0, hq => cases hq; exact hk _ rfl rfl
      | 1, hq => cases hq; exact hk _ rfl rfl
      | 2, hq => cases hq; exact hk _ rfl rfl
      | 3, hq => cases hq; exact hk _ rfl rfl
      | j + 4, hq => cases hq
  obtain ⟨A, c, he, _, hC⟩ := h.reads
  cases he
  exact hC
set_option maxRecDepth 100000 in
set_option maxHeartbeats 1000000 in
theorem lives_walk (w : World) : Calls Try.prog 9 #[] w fun e w' => e = .returned (.bool true) ∧ Below w.heap.size w w' := by
  go_enter Try.func9, Try.ntmps9
  go_wp2_with fail
  obtain ⟨W, hW⟩ : ∃ W, W = ((w.alloc (.cells #[.int .i64 1, .int .i64 1, .string ⟨#[97]⟩] 40)).alloc (.cells #[.int .i64 0, .bool true, .int .i64 1, .int .i64 1, .string ⟨#[97]⟩, .bool false, .string ⟨#[]⟩, .slice none 0 0, .slice none 0 0, .int .i64 1, .bool true, .int .i64 1, .int .i64 1, .string ⟨#[97]⟩, .bool false, .string ⟨#[]⟩, .slice none 0 0, .slice none 0 0,
      .int .i64 0, .bool false, .int .i64 1, .int .i64 1, .string ⟨#[97]⟩, .bool false, .string ⟨#[]⟩, .slice none 0 0, .slice none 0 0, .int .i64 1, .bool false, .int .i64 1, .int .i64 1, .string ⟨#[97]⟩, .bool true, .string ⟨#[]⟩, .slice none 0 0, .slice none 0 0] 45)) := ⟨_, rfl⟩
  rw [← hW]
  have hC : Kd.C k45 W (some ⟨w.heap.size + 1, 0, none⟩) 4 livesL := lives_kind W _ (by have := new_blk (w := w.alloc (.cells #[.int .i64 1, .int .i64 1, .string ⟨#[97]⟩] 40)) (.cells #[.int .i64 0, .bool true, .int .i64 1, .int .i64 1, .string ⟨#[97]⟩, .bool false, .string ⟨#[]⟩, .slice none 0 0, .slice none 0 0, .int .i64 1, .bool true, .int .i64 1, .int .i64 1, .string ⟨#[97]⟩, .bool false, .string ⟨#[]⟩, .slice none 0 0, .slice none 0 0,
      .int .i64 0, .bool false, .int .i64 1, .int .i64 1, .string ⟨#[97]⟩, .bool false, .string ⟨#[]⟩, .slice none 0 0, .slice none 0 0, .int .i64 1, .bool false, .int .i64 1, .int .i64 1, .string ⟨#[97]⟩, .bool true, .string ⟨#[]⟩, .slice none 0 0, .slice none 0 0] 45); rw [← hW] at this; simpa using this)
  have hB : Below w.heap.size w W := by rw [hW]; exact below_alloc (below_alloc (Below.refl _ _) _) _
  have HB := Lib.hid hB
  refine (order_walk W _ 4 livesL hC (by decide) (by decide)).mono ?_
  clear hC hB hW
  rintro e w1 ⟨v, b, x, rfl, hb, ho⟩
  rw [lives_ord] at ho
  obtain ⟨hrow, rfl, rfl⟩ := ho
  have HB1 := Lib.hid (below_step HB.out hb)
  obtain ⟨A3, c3, rfl⟩ : ∃ A c, v = .slice A 2 c := by
    obtain ⟨A, c, rfl⟩ := own_slice hrow
    exact ⟨A, c, rfl⟩
  obtain ⟨k3, l3⟩ := own_reads1 (h1 := fun _ => rfl) (xs := [1, 0]) hrow
  have HK := Lib.hid (And.intro k3 l3)
  clear k3 l3 hrow hb
  go_wp2_with fail
  have h2 : (w1.alloc (.cells #[.int .i64 1, .int .i64 0] 3)).ownsRow w1.heap.size 3 1 (.slice (some ⟨w1.heap.size, 0, none⟩) 2 2) 2 ([(1 : Int), 0].map (Value.int .i64)) :=
    ⟨rfl, .inr ⟨_, 2, _, rfl, Nat.le_refl _, new_blk _, by decide, by decide, rfl, rfl⟩⟩
  obtain ⟨k4, l4⟩ := own_reads1 (h1 := fun _ => rfl) (xs := [(1 : Int), 0]) h2
  refine (fugueref00_EqInts.calls 5 A3 c3 [1, 0] (some ⟨w1.heap.size, 0, none⟩) 2 [1, 0] true _ (Kd.C_below HK.out.1 (below_alloc (Below.refl _ _) _)) HK.out.2 k4 l4 (by kernel_rfl)).mono ?_
  rintro e w2 ⟨rfl, hb⟩
  have HB2 : Hid (Below w.heap.size w w2) := Lib.hid (below_step (below_alloc HB1.out _) hb.below)
  clear hb h2 k4 l4
  go_wp2_with fail
  go_ret
  exact ⟨rfl, HB2.out⟩
set_option maxRecDepth 100000 in
theorem Long_walk (a : Int) (w : World) : Calls Try.prog 24 #[.int .i64 a] w fun e w' => e = .returned (.bool (decide (a > 2147483647))) ∧ Below w.heap.size w w' := by
  go_enter Try.func24, Try.ntmps24
  go_wp2
  go_ret
  exact ⟨by first | rfl | (simp; done) | (simp [*]; done), by repeat (first | exact Below.refl _ _ | apply below_drew1 | apply pw_below_drewN)⟩
set_option maxRecDepth 100000 in
set_option maxHeartbeats 4000000 in
theorem long_walk (w : World) (A : Option Addr) (c : Nat) (l0 : List S45) (hr : Kd.C k45 w A l0.length l0) (hc : l0.length ≤ c) (hbig : ∀ j, j < l0.length → (rd_T45 l0 (j : Nat)).f3.f2.length ≤ 70368744177664 ∧ (rd_T45 l0 (j : Nat)).f3.f3.length ≤ 70368744177664) :
    Calls Try.prog 8 #[.slice A l0.length c] w fun e w' => ∃ b, e = .returned (.bool b) ∧ Below w.heap.size w w' ∧ (b = false → l0.length ≤ 2147483647 ∧ ∀ j, j < l0.length → (rd_T45 l0 (j : Nat)).f3.f2.length ≤ 2147483647 ∧ (rd_T45 l0 (j : Nat)).f3.f3.length ≤ 2147483647) := by
  have HR := Lib.hid hr
  have HC := Lib.hid hc
  have HBIG := Lib.hid hbig
  have hln : l0.length ≤ 9223372036854775807 := hr.2.1
  clear hr hc hbig
  have hu45 := Try.underlying45
  go_enter Try.func8, Try.ntmps8
  go_wp2_with fail
  go_loopw [3, 4] (fun s3 s4 wr => ∃ (n : Int) (i : Nat), s3 = .int .i64 n ∧ s4 = .int .i64 i ∧ i ≤ l0.length ∧ (0 ≤ n ∧ (2147483647 < l0.length → i = 0 ∧ n = l0.length) ∧ ∀ j, j < i → ((rd_T45 l0 (j : Nat)).f3.f2.length : Int) ≤ n ∧ ((rd_T45 l0 (j : Nat)).f3.f3.length : Int) ≤ n) ∧ Below w.heap.size w wr) (fun _ s4 _ => l0.length - (intOf s4).toNat)
  case atStart => exact ⟨_, 0, rfl, rfl, Nat.zero_le _, ⟨by omega, fun _ => ⟨rfl, rfl⟩, fun j q => by omega⟩, Below.refl _ _⟩
  case round =>
    obtain ⟨n, i, rfl, rfl, hi, hbig, hbl⟩ := hrel
    have HB := Lib.hid hbl
    have HG := Lib.hid hbig
    clear hbl hbig
    by_cases hlt : i < l0.length
    · have hlD : decide ((i : Int) < (l0.length : Int)) = true := by simp; omega
      obtain ⟨ad, A7, c7, A8, c8, rfl, x0, x1, x2, x3, x4, x5, x6, x7, x8, h7, g7, h8, g8⟩ := at_T45 HR.out i (by omega) (by omega)
      simp only [Int.toNat_natCast] at x7 x8
      have k7 := g7.2.1
      have k8 := g8.2.1
      clear x0 x1 x2 x3 x4 x5 x6 h7 g7 h8 g8
      go_wp2_with fail
      refine (Long_walk n _).mono ?_
      rintro e w1 ⟨rfl, hb⟩
      have hB1 := below_step HB.out hb
      have HB1 := Lib.hid hB1
      have mv : ∀ {p : Addr} {u : Value}, w.cell? p = some u → w1.cell? p = some u := fun h => (hB1.cell (World.block_lt_of_cell? w _ h)).trans h
      replace x7 := mv x7
      replace x8 := mv x8
      clear mv hb hB1
      by_cases hg : n > 2147483647
      · have hgD : decide (n > 2147483647) = true := decide_eq_true hg
        go_wp2_with fail
        refine (Long_walk n _).mono ?_
        rintro e w2 ⟨rfl, hb⟩
        have HB2 := Lib.hid (below_step HB1.out hb)
        clear hb
        rw [hgD]
        go_wp2_with fail
        go_ret
        exact ⟨_, rfl, HB2.out, fun q => by cases q⟩
      · have hgD : decide (n > 2147483647) = false := decide_eq_false hg
        have HBB := Lib.hid (And.intro HG.out.1 (And.intro (HBIG.out i hlt).1 (And.intro (HBIG.out i hlt).2 (Int.not_lt.1 hg))))
        go_wp2_with fail
        go_quiet (fail)
        go_wp2_with fail
        go_roundw
        case rel =>
          have h0 := HBB.out
          have hw : wrap64 (wrap64 (n + ((rd_T45 l0 (i : Nat)).f3.f2.length : Int)) + ((rd_T45 l0 (i : Nat)).f3.f3.length : Int)) = n + (rd_T45 l0 (i : Nat)).f3.f2.length + (rd_T45 l0 (i : Nat)).f3.f3.length := by unfold wrap64; omega
          rw [hw]
          refine ⟨_, i + 1, rfl, by go_num, by omega, ⟨by omega, fun q => absurd (HG.out.2.1 q) (by omega), fun j hj => ?_⟩, pw_below_drewN HB1.out _⟩
          rcases Nat.lt_or_ge j i with q | q
          · have := HG.out.2.2 j q
            omega
          · obtain rfl : j = i := by omega
            omega
        case measure => simp [intOf]; omega
    · obtain rfl : i = l0.length := by omega
      go_wp2_with fail
      refine (Long_walk n _).mono ?_
      rintro e w1 ⟨rfl, hb⟩
      have HB1 := Lib.hid (below_step HB.out hb)
      clear hb
      go_wp2_with fail
      go_ret
      refine ⟨_, rfl, HB1.out, fun q => ?_⟩
      have h1 := HG.out
      have h2 := of_decide_eq_false q
      exact ⟨by omega, fun j hj => ⟨by have := (h1.2.2 j hj).1; omega, by have := (h1.2.2 j hj).2; omega⟩⟩
theorem copyInts_any {l : List Int} (hl : l.length ≤ 2147483647) : ∀ k, 2147483648 ≤ k → fugueref00_CopyInts.f k l = some l := by
  intro k hk
  have : ∀ d, fugueref00_CopyInts.f (l.length + 1 + d) l = some l := by
    intro d
    induction d with
    | zero => exact copyInts_some l (by omega)
    | succ d ih => exact fugueref00_CopyInts.mono l _ _ ih
  have h := this (k - (l.length + 1))
  rwa [show l.length + 1 + (k - (l.length + 1)) = k by omega] at h
theorem copyStrings_any {l : List ByteArray} (hl : l.length ≤ 2147483647) : ∀ k, 2147483648 ≤ k → fugueref00_CopyStrings.f k l = some l := by
  intro k hk
  have : ∀ d, fugueref00_CopyStrings.f (l.length + 1 + d) l = some l := by
    intro d
    induction d with
    | zero => exact copyStrings_some l (by omega)
    | succ d ih => exact fugueref00_CopyStrings.mono l _ _ ih
  have h := this (k - (l.length + 1))
  rwa [show l.length + 1 + (k - (l.length + 1)) = k by omega] at h
theorem copyHist_loop (l : List S45) (hl : l.length ≤ 2147483647) (hb : ∀ j, j < l.length → (rd_T45 l (j : Nat)).f3.f2.length ≤ 2147483647 ∧ (rd_T45 l (j : Nat)).f3.f3.length ≤ 2147483647) :
    ∀ (d k i : Nat), i + d = l.length → 2147483648 + d < k → fugueref00_CopyHistory.l0 k l (l.take i) (i : Int) = some l := by
  intro d
  induction d with
  | zero =>
    intro k i h1 h2
    obtain ⟨k, rfl⟩ : ∃ k', k = k' + 1 := ⟨k - 1, by omega⟩
    unfold fugueref00_CopyHistory.l0
    rw [if_neg (by omega), List.take_of_length_le (by omega)]
  | succ d ih =>
    intro k i h1 h2
    obtain ⟨k, rfl⟩ : ∃ k', k = k' + 1 := ⟨k - 1, by omega⟩
    have hn := ih k (i + 1) (by omega) (by omega)
    have hw : wrap64 ((i : Int) + 1) = ((i + 1 : Nat) : Int) := by unfold wrap64; omega
    have hi : i < l.length := by omega
    have ht : l.take (i + 1) = l.take i ++ [rd_T45 l (i : Nat)] := by
      rw [List.take_succ_eq_append_getElem hi]
      unfold rd_T45
      rw [Int.toNat_natCast, List.getD_eq_getElem?_getD, List.getElem?_eq_getElem hi]
      rfl
    unfold fugueref00_CopyHistory.l0
    rw [if_pos (by omega), if_pos (by omega)]
    unfold fugueref00_CopyMoment.f
    rw [copyInts_any (hb i hi).1 k (by omega), copyStrings_any (hb i hi).2 k (by omega)]
    simp only [Option.bind_some]
    rw [if_pos (by simp; omega), hw]
    rw [ht] at hn
    exact hn
theorem copyHist_some (l : List S45) (hl : l.length ≤ 2147483647) (hb : ∀ j, j < l.length → (rd_T45 l (j : Nat)).f3.f2.length ≤ 2147483647 ∧ (rd_T45 l (j : Nat)).f3.f3.length ≤ 2147483647) : fugueref00_CopyHistory.f (2147483649 + l.length) l = some l :=
  copyHist_loop l hl hb l.length (2147483649 + l.length) 0 (by omega) (by omega)
def tryL (cs : List S70) (f : List Int → List Int) (head : List Int) : Nat → Nat → List Int
  | 0, _ => []
  | r + 1, i => if (rd_T70 cs (i : Nat)).f0 ∈ head then tryL cs f head r (i + 1) else if (f (head ++ [(rd_T70 cs (i : Nat)).f0])).length = 0 then tryL cs f head r (i + 1) else f (head ++ [(rd_T70 cs (i : Nat)).f0])
open Classical in
noncomputable def tryB (cs : List S70) : Nat → List Int → List Int
  | 0, head => if Played cs head then head else []
  | d + 1, head => tryL cs (tryB cs d) head cs.length 0
theorem told_len {cs : List S70} (hc : CsOk cs) {os : List Int} (h : toldB cs = some os) : os.length = cs.length := (told_some hc h).1
end Go.Proofs.Ytfahoomkpammiaa
