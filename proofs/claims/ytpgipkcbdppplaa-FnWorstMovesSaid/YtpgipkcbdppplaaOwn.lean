/-
  The call's own []int and [][]int, as lists: an append of one element, what stays, and how they read. Plain laws; no condition but bounds on lengths.
-/
import Derived.Test.YtpgipkcbdppplaaMem
namespace Go.Proofs.Ytpgipkcbdppplaa
open Go.RowKit

/-- The call's own []int of length n holds l. -/
def OwnInts (w : World) (lo : Nat) (A : Option Addr) (n c : Nat) (l : List Int) : Prop := w.ownsRow lo 3 1 (.slice A n c) n (l.map (Value.int .i64))
theorem OwnInts.len {w : World} {lo : Nat} {A : Option Addr} {n c : Nat} {l : List Int} (h : OwnInts w lo A n c l) : l.length = n := by have := h.1; simpa using this
theorem OwnInts.ints {w : World} {lo : Nat} {A : Option Addr} {n c : Nat} {l : List Int} (h : OwnInts w lo A n c l) : Ints w A n (fun i => l.getD i 0) := own_ints h
theorem OwnInts.keeps {w w' : World} {lo : Nat} {A : Option Addr} {n c : Nat} {l : List Int} (h : OwnInts w lo A n c l) (k : Keeps w w') : OwnInts w' lo A n c l := own_keeps h k
theorem OwnInts.nil (w : World) (lo : Nat) : OwnInts w lo none 0 0 [] := World.ownsRow_nil w lo _ 1
theorem OwnInts.made (w : World) (lo : Nat) (h : lo ≤ w.heap.size) : OwnInts (w.alloc (.cells #[] 3)) lo (some ⟨w.heap.size, 0, none⟩) 0 0 [] := World.ownsRow_made w #[] 0 h (by unfold maxLen; omega) rfl
theorem OwnInts.mono {w : World} {lo lo' : Nat} {A : Option Addr} {n c : Nat} {l : List Int} (h : OwnInts w lo A n c l) (hl : lo' ≤ lo) : OwnInts w lo' A n c l := by
  refine ⟨h.1, ?_⟩
  rcases h.2 with h2 | ⟨g, cap, cur, e, hg, r⟩
  · exact .inl h2
  · exact .inr ⟨g, cap, cur, e, Nat.le_trans hl hg, r⟩
theorem OwnInts.grown {w w' : World} {lo : Nat} {A : Option Addr} {n c : Nat} {l : List Int} {b : Nat} {T : TypeId} {cs : Array Value} (h : OwnInts w lo A n c l) (k : w.grownBy w' (some b)) (hb : Blk w b T cs) (hT : T ≠ 3) : OwnInts w' lo A n c l :=
  own_kept h k (own_other h hb hT)
theorem OwnInts.from' {w : World} {lo : Nat} {A : Option Addr} {n c : Nat} {l : List Int} (h : OwnInts w lo A n c l) : ∀ d off, A = some ⟨d, off, none⟩ → lo ≤ d := fun d off e => (own_block h d (by rw [e]; rfl)).1

theorem info_int : (Try.prog.info? 3).map (fun i => (i.zero, i.size, i.bytes)) = some (some (.int .i64 0), 1, 8) := by kernel_rfl
theorem wp_app_int {ops : Array Oper} {rest : List Oper} {o : Oper} {a : Act} {Q : Exit → Act → World → Prop}
    (hgd : o.guard = none) (s y : Operand) (ho : o.op = .call { callee := .builtin .append, args := #[s, y], argTypes := #[23, 23] })
    (lo : Nat) (A : Option Addr) (n c : Nat) (l : List Int) (w : World) (hs : a.eval s = .slice A n c) (hown : OwnInts w lo A n c l)
    (x : Int) (hx : a.eval y = .slice (some ⟨w.heap.size, 0, none⟩) 1 1) (hn : n + 1 ≤ 1099511627776) (hbase : lo ≤ w.heap.size)
    (h : ∀ (g c' : Nat) (w' : World), OwnInts w' lo (some ⟨g, 0, none⟩) (n + 1) c' (l ++ [x]) → w.grownBy w' (A.map (·.block)) → wpList Try.prog ops Q rest (a.put o.dst (.slice (some ⟨g, 0, none⟩) (n + 1) c')) w') :
    wpList Try.prog ops Q (o :: rest) a (w.alloc (.cells #[.int .i64 x] 3)) :=
  wp_app Try.underlying23 info_int rfl (by omega) hgd s y ho lo A n c _ w hs hown _ rfl hx hn hbase (fun g c' w' h1 h2 => h g c' w' (by unfold OwnInts; rw [List.map_append]; exact h1) h2)

theorem step_app_int {ops : Array Oper} {o : Oper} {a : Act} {K : Act → World → Prop} {Q : Exit → Act → World → Prop} {D : Prop}
    (hgd : o.guard = none) (s y : Operand) (ho : o.op = .call { callee := .builtin .append, args := #[s, y], argTypes := #[23, 23] })
    (lo : Nat) (A : Option Addr) (n c : Nat) (l : List Int) (w : World) (hs : a.eval s = .slice A n c) (hown : OwnInts w lo A n c l)
    (x : Int) (hx : a.eval y = .slice (some ⟨w.heap.size, 0, none⟩) 1 1) (hn : n + 1 ≤ 1099511627776) (hbase : lo ≤ w.heap.size)
    (h : ∀ (g c' : Nat) (w' : World), OwnInts w' lo (some ⟨g, 0, none⟩) (n + 1) c' (l ++ [x]) → w.grownBy w' (A.map (·.block)) → (A.map (·.block) = some g ∨ g = w.heap.size + 1) → K (a.put o.dst (.slice (some ⟨g, 0, none⟩) (n + 1) c')) w') :
    if Region.wanted o (yielded ops a.tmps) = true then Oper.wp Try.prog o a (w.alloc (.cells #[.int .i64 x] 3)).drew K Q else D :=
  step_app Try.underlying23 info_int rfl (by omega) hgd s y ho lo A n c _ w hs hown _ rfl hx hn hbase (fun g c' w' h1 h2 h3 => h g c' w' (by unfold OwnInts; rw [List.map_append]; exact h1) h2 h3)
end Go.Proofs.Ytpgipkcbdppplaa
