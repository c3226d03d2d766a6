/- A step towards the laws on histories: a book (calls, and by key the call that made its value) in memory; value, saw, missed. No conditions of its own beyond those that its theorems name. -/
import Derived.Test.YtfahoomkpammiaaHPure
import Derived.Test.YtfahoomkpammiaaKUtil
import Derived.BigQuiet
import Derived.Lib.Hide
import Derived.Lib.SlicesS
import Derived.WalkKit
import Derived.WalkSpells
namespace Go.Proofs.Ytfahoomkpammiaa
open Go.RowKit Go.MapKept Go.Proofs.YtfahoomkpammiaaW.PrintWords Go.Proofs.YtfahoomkpammiaaW.PrintLast Go.Proofs.YtfahoomkpammiaaW.PrintMore Go.Proofs.Ytfahoomkpammiaa.PHistOrders

abbrev Mk := Int → Option Nat
def mkV (mk : Mk) : Int → Option Value := fun k => (mk k).map fun n => .int .i64 (n : Nat)
/-- block p is a book -/
structure BookAt (w : World) (p : Nat) (cs : List S70) (mk : Mk) (A : Option Addr) (c b : Nat) : Prop where
  blk : w.heap[p]? = some (.cells #[.slice A cs.length c, .map (some b)] 58 (0, 0))
  cap : cs.length ≤ c
  len : cs.length ≤ 2147483647
  row : Kd.C k70 w A cs.length cs
  map : IMap w b (mkV mk)
  inb : ∀ k n, mk k = some n → n < cs.length
theorem BookAt.below {w w1 : World} {p : Nat} {cs : List S70} {mk : Mk} {A : Option Addr} {c b : Nat} (h : BookAt w p cs mk A c b) (hb : Below w.heap.size w w1) : BookAt w1 p cs mk A c b :=
  ⟨blk_below h.blk hb, h.cap, h.len, Kd.C_below h.row hb, h.map.of_block (hb.block _ h.map.lt), h.inb⟩
theorem mkV_some {mk : Mk} {k : Int} {n : Nat} (h : mk k = some n) : mkV mk k = some (.int .i64 (n : Nat)) := by unfold mkV; rw [h]; rfl
theorem mkV_none {mk : Mk} {k : Int} (h : mk k = none) : mkV mk k = none := by unfold mkV; rw [h]; rfl
theorem BookAt.look {w : World} {p : Nat} {cs : List S70} {mk : Mk} {A : Option Addr} {c b : Nat} (h : BookAt w p cs mk A c b) (k : Int) :
    (Instr.lookup 56 (.map (some b)) (.int .i64 k) true).run Try.prog w = .ok (.tuple #[(mkV mk k).getD (.int .i64 0), .bool (mkV mk k).isSome]) w :=
  IMap.run_lookup2 Try.underlying56 Try.underlying3 h.map _ (by kernel_rfl) k

set_option maxRecDepth 100000 in
theorem value_some {w : World} {p : Nat} {cs : List S70} {mk : Mk} {A : Option Addr} {c b : Nat} (h : BookAt w p cs mk A c b) (key : Int) (n : Nat) (hk : mk key = some n) :
    Calls Try.prog 59 #[.pointer (some ⟨p, 0, none⟩), .int .i64 key] w fun e w' => e = .returned (.tuple #[.string (rd_T70 cs n).f2.f2, .bool true]) ∧ w = w' := by
  have hn := h.inb _ _ hk
  have hl := h.look key
  simp only [mkV_some hk, Option.getD_some, Option.isSome_some] at hl
  have c0 := blk_cell h.blk (i := 0) rfl
  have c1 := blk_cell h.blk (i := 1) rfl
  obtain ⟨ad, E7, e7, E8, e8, hA, q0, q1, q2, q3, q4, q5, q6, q7, q8, _, _, _, _⟩ := at_T70 h.row n (by omega) (by omega)
  subst hA
  simp only [Int.toNat_natCast] at q4
  have hcl : cs.length ≤ 2147483647 := h.len
  have H := Lib.hid h
  clear h hk q0 q1 q2 q3 q5 q6 q7 q8
  have hnD : decide ((n : Int) < (cs.length : Int)) = true := by simp; omega
  have hu := Try.underlying65
  have hu2 := Try.underlying58
  have hu3 := Try.underlying40
  go_enter Try.func59, Try.ntmps59
  go_wp2_with fail
  go_ret2
  exact ⟨rfl, rfl⟩
set_option maxRecDepth 100000 in
theorem value_none {w : World} {p : Nat} {cs : List S70} {mk : Mk} {A : Option Addr} {c b : Nat} (h : BookAt w p cs mk A c b) (key : Int) (hk : mk key = none) :
    Calls Try.prog 59 #[.pointer (some ⟨p, 0, none⟩), .int .i64 key] w fun e w' => e = .returned (.tuple #[.string ⟨#[]⟩, .bool false]) ∧ w = w' := by
  have hl := h.look key
  simp only [mkV_none hk, Option.getD_none, Option.isSome_none] at hl
  have c0 := blk_cell h.blk (i := 0) rfl
  have c1 := blk_cell h.blk (i := 1) rfl
  have H := Lib.hid h
  clear h hk
  have hu2 := Try.underlying58
  go_enter Try.func59, Try.ntmps59
  go_wp2_with fail
  go_ret2
  exact ⟨rfl, rfl⟩
end Go.Proofs.Ytfahoomkpammiaa
