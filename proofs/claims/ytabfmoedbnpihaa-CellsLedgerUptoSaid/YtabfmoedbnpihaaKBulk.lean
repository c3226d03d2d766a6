/- What the bound of the second form gives: a slice's length. -/
import Derived.Test.YtabfmoedbnpihaaRows
namespace Go.Proofs.Ytabfmoedbnpihaa

theorem bulk_pos {H : Type} (d : DataW H) : 1 ≤ Rows.uptoBulk d := by
  cases d with
  | lit l => cases l <;> simp [Rows.uptoBulk]
  | _ => simp [Rows.uptoBulk]
theorem bulk_len {H : Type} : ∀ l : List (DataW H), l.length ≤ Rows.uptoBulkAll l
  | [] => Nat.zero_le _
  | d :: l => by
    have h1 := bulk_pos d
    have h2 := bulk_len l
    simp only [List.length_cons, Rows.uptoBulkAll]
    omega
theorem bulk_mem {H : Type} {d : DataW H} : ∀ {l : List (DataW H)}, d ∈ l → Rows.uptoBulk d ≤ Rows.uptoBulkAll l
  | [], h => by cases h
  | e :: l, h => by
    simp only [Rows.uptoBulkAll]
    rcases List.mem_cons.1 h with rfl | h
    · omega
    · have := bulk_mem h
      omega
/-- so long is a slice that came in -/
theorem bulk_slice {H : Type} {ds : List (DataW H)} {d : DataW H} {n : Nat} (hk : Rows.uptoSmall H ds = true) (hd : d ∈ ds) (h : ∃ el sp, n ≤ el.length ∧ (d = .slice el sp ∨ n = 0)) : n ≤ 1048576 := by
  obtain ⟨el, sp, h1, h2⟩ := h
  have hb : Rows.uptoBulkAll ds ≤ 1048576 := by simpa [Rows.uptoSmall] using hk
  rcases h2 with rfl | rfl
  · have h3 := bulk_mem hd
    have h4 := bulk_len el
    simp only [Rows.uptoBulk] at h3
    omega
  · exact Nat.zero_le _
end Go.Proofs.Ytabfmoedbnpihaa
