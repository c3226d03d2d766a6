/- A step towards the laws on the table: Publish and Lookup. No conditions of its own beyond those that its theorems name. -/
import Derived.Test.YtihjpbalkjhjbaaTFun
namespace Go.Proofs.Ytihjpbalkjhjbaa
open Go.RowKit Go.MapKept Go.MuLone

set_option maxRecDepth 100000 in
set_option maxHeartbeats 1000000 in
theorem tpublish_old {w : World} {tb : Nat} {lab : TLab} {T : Int → Option ByteArray} (h : TabAt w tb lab T) (k : Int) (s s' : ByteArray) (hk : T k = some s') :
    Calls Try.prog 10 #[.pointer (some ⟨tb, 0, none⟩), .int .i64 k, .string s] w fun e w' => e = .returned (.bool false) ∧ TabAt w' tb lab T ∧ TExt w w' lab lab := by
  obtain ⟨bm, f, cs, h⟩ := h
  obtain ⟨i, hki⟩ : ∃ i : Nat, k % 8 = (i : Int) := ⟨(k % 8).toNat, by omega⟩
  have hi : i < 8 := by omega
  have hent := h.ents i hi k
  rw [if_pos hki, hk] at hent
  obtain ⟨v, hv⟩ : ∃ v, f i k = some v := by
    cases hq : f i k with
    | none => rw [hq] at hent; exact hent.elim
    | some v => exact ⟨v, rfl⟩
  rw [hv] at hent
  obtain ⟨eb, rfl, hbe, hle⟩ := hent
  have h0 := h.only (S := fun _ => False) (Only.refl w _).drew fun _ _ q => q
  have hle2 : eb ≠ tb := tlab_ne hle h.lself (by simp)
  have l0 : w.drew.cell? ⟨tb, i * 3, none⟩ = some (.int .i32 0) := blk_cell h0.self (h0.lock i hi)
  have HPL := Lib.hid (fun W => place_any W k i hki)
  have HH := Lib.hid (And.intro h0 (And.intro hv (And.intro hbe hle2)))
  have htb := blk_lt h.self
  have hL := Lib.hid (lock_free muLib ⟨tb, i * 3, none⟩ w.drew l0 (blk_frozen h0.self _))
  have hiI : (i : Int) < 8 := by omega
  have hiZ : (0 : Int) ≤ (i : Int) := by omega
  have hiD : decide ((i : Int) < 8) = true := by simp; omega
  clear hki hk hv hbe hle hle2 h h0 l0
  go_enter_defers Try.func10, Try.ntmps10
  go_wp2_with fail
  refine wp_region_still_lit (by kernel_rfl) (by kernel_rfl) ?_
  repeat still_step
  still_call (HPL.out _)
  repeat still_step
  refine wpStill_nil ?_
  go_wp2_with fail
  refine hL.out.mono ?_
  clear hL
  rintro e W1 ⟨rfl, hW1⟩
  have h1 := HH.out.1.locked hi 1
  rw [← hW1] at h1
  have he := blk_cell (i := 0) (blk_far (w := w.drew) HH.out.2.2.1 (a := ⟨tb, i * 3, none⟩) HH.out.2.2.2 (.int .i32 1)) rfl
  rw [← hW1] at he
  have ho : Only w W1 fun b => lab b ≠ none := by
    rw [hW1]
    exact ((Only.refl w (fun b => lab b ≠ none)).drew).setCell (p := ⟨tb, i * 3, none⟩) (.inl (by rw [HH.out.1.lself]; simp)) _
  have HP := Lib.hid (publish_old W1 tb i (bm i) eb (f i) k s (blk_cell h1.self (h1.mapc i hi)) (h1.maps i hi) HH.out.2.1 he)
  have H1 := Lib.hid (And.intro h1 ho)
  clear hW1 h1 he ho
  go_wp2_with fail
  refine HP.out.mono ?_
  clear HP
  rintro e w' ⟨rfl, rfl⟩
  go_wp2_with fail
  obtain ⟨h1, ho⟩ := H1.out
  refine leaves_cons (f := 36) (args := #[.pointer (some ⟨tb, i * 3, none⟩)]) (by simp) (by simp [go_sem]) ?_
  refine (unlock_deferred muLib ⟨tb, i * 3, none⟩ .returning _ ?_ (blk_frozen h1.self _)).mono ?_
  · have hc := h1.lock i hi
    rw [if_pos rfl] at hc
    exact blk_cell h1.self hc
  rintro e u' w'' ⟨rfl, rfl, rfl⟩
  refine ⟨_, results_tmp rfl _ _ _, rfl, ?_, ?_⟩
  · have h2 := h1.locked hi 0
    rw [show (fun j => if j = i then (0 : Int) else if j = i then 1 else 0) = fun _ => 0 by funext j; split <;> rfl] at h2
    exact ⟨_, _, _, h2⟩
  · exact TExt.same (ho.setCell (p := ⟨tb, i * 3, none⟩) (.inl (by rw [HH.out.1.lself]; simp)) _)

set_option maxRecDepth 100000 in
set_option maxHeartbeats 1000000 in
theorem tpublish_new {w : World} {tb : Nat} {lab : TLab} {T : Int → Option ByteArray} (h : TabAt w tb lab T) (k : Int) (s : ByteArray) (hk : T k = none) :
    Calls Try.prog 10 #[.pointer (some ⟨tb, 0, none⟩), .int .i64 k, .string s] w fun e w' => e = .returned (.bool true) ∧ ∃ lab', TabAt w' tb lab' (fun j => if j = k then some s else T j) ∧ TExt w w' lab lab' := by
  obtain ⟨bm, f, cs, h⟩ := h
  obtain ⟨i, hki⟩ : ∃ i : Nat, k % 8 = (i : Int) := ⟨(k % 8).toNat, by omega⟩
  have hi : i < 8 := by omega
  have hent := h.ents i hi k
  rw [if_pos hki, hk] at hent
  have hv : f i k = none := by
    cases hq : f i k with
    | none => rfl
    | some v => rw [hq] at hent; exact hent.elim
  have h0 := h.only (S := fun _ => False) (Only.refl w _).drew fun _ _ q => q
  have l0 : w.drew.cell? ⟨tb, i * 3, none⟩ = some (.int .i32 0) := blk_cell h0.self (h0.lock i hi)
  have HPL := Lib.hid (fun W => place_any W k i hki)
  have HH := Lib.hid (And.intro h0 (And.intro hv hki))
  have htb := blk_lt h.self
  have hL := Lib.hid (lock_free muLib ⟨tb, i * 3, none⟩ w.drew l0 (blk_frozen h0.self _))
  have hiI : (i : Int) < 8 := by omega
  have hiZ : (0 : Int) ≤ (i : Int) := by omega
  have hiD : decide ((i : Int) < 8) = true := by simp; omega
  clear hki hk hv hent h h0 l0
  go_enter_defers Try.func10, Try.ntmps10
  go_wp2_with fail
  refine wp_region_still_lit (by kernel_rfl) (by kernel_rfl) ?_
  repeat still_step
  still_call (HPL.out _)
  repeat still_step
  refine wpStill_nil ?_
  go_wp2_with fail
  refine hL.out.mono ?_
  clear hL
  rintro e W1 ⟨rfl, hW1⟩
  have h1 := HH.out.1.locked hi 1
  rw [← hW1] at h1
  have ho : Only w W1 fun b => lab b ≠ none := by
    rw [hW1]
    exact ((Only.refl w (fun b => lab b ≠ none)).drew).setCell (p := ⟨tb, i * 3, none⟩) (.inl (by rw [HH.out.1.lself]; simp)) _
  have HP := Lib.hid (publish_new W1 tb i (bm i) (f i) k s (blk_cell h1.self (h1.mapc i hi)) (h1.maps i hi) HH.out.2.1)
  have H1 := Lib.hid (And.intro h1 ho)
  clear hW1 h1 ho
  go_wp2_with fail
  refine HP.out.mono ?_
  clear HP
  rintro e w2 ⟨rfl, hp⟩
  have HPN := Lib.hid hp
  clear hp
  go_wp2_with fail
  obtain ⟨h1, ho⟩ := H1.out
  obtain ⟨eb, heb, hm2, ho2, hb2⟩ := HPN.out
  have h3 := h1.put hi HH.out.2.2 heb hm2 ho2 hb2
  have hob : Only w w2 fun b => lab b ≠ none := ho.trans ho2 fun b q => .inl (by rw [q, h1.lmap i hi]; simp)
  refine leaves_cons (f := 36) (args := #[.pointer (some ⟨tb, i * 3, none⟩)]) (by simp) (by simp [go_sem]) ?_
  refine (unlock_deferred muLib ⟨tb, i * 3, none⟩ .returning _ ?_ (blk_frozen h3.self _)).mono ?_
  · have hc := h3.lock i hi
    rw [if_pos rfl] at hc
    exact blk_cell h3.self hc
  rintro e u' w'' ⟨rfl, rfl, rfl⟩
  refine ⟨_, results_tmp rfl _ _ _, rfl, fun b => if b = eb then some (2, k) else lab b, ?_, ?_⟩
  · have h2 := h3.locked hi 0
    rw [show (fun j => if j = i then (0 : Int) else if j = i then 1 else 0) = fun _ => 0 by funext j; split <;> rfl] at h2
    exact ⟨_, _, _, h2⟩
  · refine ⟨hob.setCell (p := ⟨tb, i * 3, none⟩) (.inl (by rw [HH.out.1.lself]; simp)) _, fun b hb => ?_, fun b hb => ?_⟩
    · have := h1.old b hb
      show (if b = eb then some (2, k) else lab b) = lab b
      rw [if_neg (by omega)]
    · by_cases e : b = eb
      · subst e
        exact .inr (Nat.le_trans ho.size heb)
      · have hb2 : (if b = eb then some (2, k) else lab b) ≠ none := hb
        rw [if_neg e] at hb2
        exact .inl hb2

set_option maxRecDepth 100000 in
set_option maxHeartbeats 1000000 in
theorem tlookup_some {w : World} {tb : Nat} {lab : TLab} {T : Int → Option ByteArray} (h : TabAt w tb lab T) (k : Int) (s : ByteArray) (hk : T k = some s) :
    Calls Try.prog 8 #[.pointer (some ⟨tb, 0, none⟩), .int .i64 k] w fun e w' => e = .returned (.tuple #[.string s, .bool true]) ∧ TabAt w' tb lab T ∧ TExt w w' lab lab := by
  obtain ⟨bm, f, cs, h⟩ := h
  obtain ⟨i, hki⟩ : ∃ i : Nat, k % 8 = (i : Int) := ⟨(k % 8).toNat, by omega⟩
  have hi : i < 8 := by omega
  have hent := h.ents i hi k
  rw [if_pos hki, hk] at hent
  obtain ⟨v, hv⟩ : ∃ v, f i k = some v := by
    cases hq : f i k with
    | none => rw [hq] at hent; exact hent.elim
    | some v => exact ⟨v, rfl⟩
  rw [hv] at hent
  obtain ⟨eb, rfl, hbe, hle⟩ := hent
  have h0 := h.only (S := fun _ => False) (Only.refl w _).drew fun _ _ q => q
  have hle2 : eb ≠ tb := tlab_ne hle h.lself (by simp)
  have l0 : w.drew.cell? ⟨tb, i * 3, none⟩ = some (.int .i32 0) := blk_cell h0.self (h0.lock i hi)
  have HPL := Lib.hid (fun W => place_any W k i hki)
  have HH := Lib.hid (And.intro h0 (And.intro hv (And.intro hbe hle2)))
  have htb := blk_lt h.self
  have hL := Lib.hid (lock_free muLib ⟨tb, i * 3, none⟩ w.drew l0 (blk_frozen h0.self _))
  have hiI : (i : Int) < 8 := by omega
  have hiZ : (0 : Int) ≤ (i : Int) := by omega
  have hiD : decide ((i : Int) < 8) = true := by simp; omega
  clear hki hk hv hbe hle hle2 h h0 l0
  go_enter_defers Try.func8, Try.ntmps8
  go_wp2_with fail
  refine wp_region_still_lit (by kernel_rfl) (by kernel_rfl) ?_
  repeat still_step
  still_call (HPL.out _)
  repeat still_step
  refine wpStill_nil ?_
  go_wp2_with fail
  refine hL.out.mono ?_
  clear hL
  rintro e W1 ⟨rfl, hW1⟩
  have h1 := HH.out.1.locked hi 1
  rw [← hW1] at h1
  have he := blk_cell (i := 0) (blk_far (w := w.drew) HH.out.2.2.1 (a := ⟨tb, i * 3, none⟩) HH.out.2.2.2 (.int .i32 1)) rfl
  rw [← hW1] at he
  have he1 := blk_cell (i := 1) (blk_far (w := w.drew) HH.out.2.2.1 (a := ⟨tb, i * 3, none⟩) HH.out.2.2.2 (.int .i32 1)) rfl
  rw [← hW1] at he1
  have ho : Only w W1 fun b => lab b ≠ none := by
    rw [hW1]
    exact ((Only.refl w (fun b => lab b ≠ none)).drew).setCell (p := ⟨tb, i * 3, none⟩) (.inl (by rw [HH.out.1.lself]; simp)) _
  have HP := Lib.hid (lookup_some W1 tb i (bm i) eb (f i) k s (blk_cell h1.self (h1.mapc i hi)) (h1.maps i hi) HH.out.2.1 he he1)
  have H1 := Lib.hid (And.intro h1 ho)
  clear hW1 h1 he he1 ho
  go_wp2_with fail
  refine HP.out.mono ?_
  clear HP
  rintro e w' ⟨rfl, rfl⟩
  go_wp2_with fail
  obtain ⟨h1, ho⟩ := H1.out
  refine leaves_cons (f := 36) (args := #[.pointer (some ⟨tb, i * 3, none⟩)]) (by simp) (by simp [go_sem]) ?_
  refine (unlock_deferred muLib ⟨tb, i * 3, none⟩ .returning _ ?_ (blk_frozen h1.self _)).mono ?_
  · have hc := h1.lock i hi
    rw [if_pos rfl] at hc
    exact blk_cell h1.self hc
  rintro e u' w'' ⟨rfl, rfl, rfl⟩
  refine ⟨_, results_tmp2 rfl _ _ _, rfl, ?_, ?_⟩
  · have h2 := h1.locked hi 0
    rw [show (fun j => if j = i then (0 : Int) else if j = i then 1 else 0) = fun _ => 0 by funext j; split <;> rfl] at h2
    exact ⟨_, _, _, h2⟩
  · exact TExt.same (ho.setCell (p := ⟨tb, i * 3, none⟩) (.inl (by rw [HH.out.1.lself]; simp)) _)

set_option maxRecDepth 100000 in
set_option maxHeartbeats 1000000 in
theorem tlookup_none {w : World} {tb : Nat} {lab : TLab} {T : Int → Option ByteArray} (h : TabAt w tb lab T) (k : Int) (hk : T k = none) :
    Calls Try.prog 8 #[.pointer (some ⟨tb, 0, none⟩), .int .i64 k] w fun e w' => e = .returned (.tuple #[.string ⟨#[]⟩, .bool false]) ∧ TabAt w' tb lab T ∧ TExt w w' lab lab := by
  obtain ⟨bm, f, cs, h⟩ := h
  obtain ⟨i, hki⟩ : ∃ i : Nat, k % 8 = (i : Int) := ⟨(k % 8).toNat, by omega⟩
  have hi : i < 8 := by omega
  have hent := h.ents i hi k
  rw [if_pos hki, hk] at hent
  have hv : f i k = none := by
    cases hq : f i k with
    | none => rfl
    | some v => rw [hq] at hent; exact hent.elim
  have h0 := h.only (S := fun _ => False) (Only.refl w _).drew fun _ _ q => q
  have l0 : w.drew.cell? ⟨tb, i * 3, none⟩ = some (.int .i32 0) := blk_cell h0.self (h0.lock i hi)
  have HPL := Lib.hid (fun W => place_any W k i hki)
  have HH := Lib.hid (And.intro h0 hv)
  have htb := blk_lt h.self
  have hL := Lib.hid (lock_free muLib ⟨tb, i * 3, none⟩ w.drew l0 (blk_frozen h0.self _))
  have hiI : (i : Int) < 8 := by omega
  have hiZ : (0 : Int) ≤ (i : Int) := by omega
  have hiD : decide ((i : Int) < 8) = true := by simp; omega
  clear hki hk hv hent h h0 l0
  go_enter_defers Try.func8, Try.ntmps8
  go_wp2_with fail
  refine wp_region_still_lit (by kernel_rfl) (by kernel_rfl) ?_
  repeat still_step
  still_call (HPL.out _)
  repeat still_step
  refine wpStill_nil ?_
  go_wp2_with fail
  refine hL.out.mono ?_
  clear hL
  rintro e W1 ⟨rfl, hW1⟩
  have h1 := HH.out.1.locked hi 1
  rw [← hW1] at h1
  have ho : Only w W1 fun b => lab b ≠ none := by
    rw [hW1]
    exact ((Only.refl w (fun b => lab b ≠ none)).drew).setCell (p := ⟨tb, i * 3, none⟩) (.inl (by rw [HH.out.1.lself]; simp)) _
  have HP := Lib.hid (lookup_none W1 tb i (bm i) (f i) k (blk_cell h1.self (h1.mapc i hi)) (h1.maps i hi) HH.out.2)
  have H1 := Lib.hid (And.intro h1 ho)
  clear hW1 h1 ho
  go_wp2_with fail
  refine HP.out.mono ?_
  clear HP
  rintro e w' ⟨rfl, rfl⟩
  go_wp2_with fail
  obtain ⟨h1, ho⟩ := H1.out
  refine leaves_cons (f := 36) (args := #[.pointer (some ⟨tb, i * 3, none⟩)]) (by simp) (by simp [go_sem]) ?_
  refine (unlock_deferred muLib ⟨tb, i * 3, none⟩ .returning _ ?_ (blk_frozen h1.self _)).mono ?_
  · have hc := h1.lock i hi
    rw [if_pos rfl] at hc
    exact blk_cell h1.self hc
  rintro e u' w'' ⟨rfl, rfl, rfl⟩
  refine ⟨_, results_tmp2 rfl _ _ _, rfl, ?_, ?_⟩
  · have h2 := h1.locked hi 0
    rw [show (fun j => if j = i then (0 : Int) else if j = i then 1 else 0) = fun _ => 0 by funext j; split <;> rfl] at h2
    exact ⟨_, _, _, h2⟩
  · exact TExt.same (ho.setCell (p := ⟨tb, i * 3, none⟩) (.inl (by rw [HH.out.1.lself]; simp)) _)
end Go.Proofs.Ytihjpbalkjhjbaa
