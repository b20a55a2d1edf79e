/-
  How a net of the call's own reads; rings. No condition.
-/
import Derived.Test.YtdjilgbcpdlkfaaApp
import Derived.Test.YtdjilgbcpdlkfaaNetLaw
namespace Go.Proofs.Ytdjilgbcpdlkfaa
open Go.RowKit

/-- All blocks of a net lie from lo on. -/
structure NetNew (w : World) (lo : Nat) (A : Option Addr) (m : Nat) (r : Nat → Option Addr × Nat × Nat) (B : Option Addr) (mm : Nat) (L : Nat → Nat) (X : Nat → Nat → Int) (M : Nat → Int) : Prop where
  net : NetAt w A m r B mm L X M
  a : ∀ d off, A = some ⟨d, off, none⟩ → lo ≤ d
  b : ∀ d off, B = some ⟨d, off, none⟩ → lo ≤ d
  r : ∀ v, v < m → ∀ d off, (r v).1 = some ⟨d, off, none⟩ → lo ≤ d
theorem own_cap {w : World} {lo n c : Nat} {A : Option Addr} {l : List Int} (h : OwnInts w lo A n c l) : n ≤ c ∧ c ≤ 9223372036854775807 := by
  rcases h.2 with ⟨e, h0⟩ | ⟨g, cap, cur, e, _, _, hc, hc2, _⟩
  · cases e; omega
  · cases e
    unfold maxLen at hc2
    omega
theorem netNew_own {w : World} {lo m c mm d : Nat} {A B : Option Addr} {LL : List (List Int)} {ll : List Int} {L : Nat → Nat} {X : Nat → Nat → Int} {M : Nat → Int} (hA : OwnRows w lo A m c LL) (hB : OwnInts w lo B mm d ll) (hm : m ≤ 1099511627776) (hmm : mm ≤ 1099511627776)
    (hL : ∀ v, v < m → (LL.getD v []).length = L v) (hX : ∀ v p, v < m → p < L v → (LL.getD v []).getD p 0 = X v p) (hM : ∀ i, i < mm → ll.getD i 0 = M i) : ∃ r, NetNew w lo A m r B mm L X M := by
  obtain ⟨ys, h1, h2, h3⟩ := hA
  obtain ⟨r, hr⟩ := Deep.choose_lt (p := fun i (y : Option Addr × Nat × Nat) => ys[i]? = some (.slice y.1 y.2.1 y.2.2) ∧ OwnInts w lo y.1 y.2.1 y.2.2 (LL.getD i [])) (fun i hi => by
    obtain ⟨a, m, k, e, ho⟩ := h3 i hi
    exact ⟨(a, m, k), e, ho⟩)
  have hlen : ∀ v, v < m → (r v).2.1 = L v := fun v hv => by rw [← (hr v hv).2.len]; exact hL v hv
  refine ⟨r, ⟨⟨fun i hi => ⟨?_, fun p hp => ?_⟩, hlen, fun v hv => ?_, fun i hi => ?_, by omega, by omega⟩, fun d' off e => (own_block h1 d' (by rw [e]; rfl)).1, hB.from', fun v hv => (hr v hv).2.from'⟩⟩
  · rcases h1.2 with ⟨e, h0⟩ | ⟨g, cap, cur, e, rest⟩
    · omega
    · cases e
      exact ⟨g, 0, rfl, by rw [Nat.zero_add, h1.cellAt i (by omega)]; exact (hr i hi).1⟩
  · obtain ⟨b, off, e, hc⟩ := (hr i hi).2.ints p hp
    exact ⟨b, off, e, by rw [hc]; dsimp only; rw [hX i p hi (by rw [← hlen i hi]; exact hp)]⟩
  · exact own_cap (hr v hv).2
  · obtain ⟨b, off, e, hc⟩ := hB.ints i hi
    exact ⟨b, off, e, by rw [hc]; dsimp only; rw [hM i hi]⟩
/-- The rows of a ring. -/
def ringR (m n : Nat) : List (List Int) := (List.range n).map (fun v => [ringX m v 0, ringX m v 1])
theorem ringR_next (m n : Nat) : ringR m n ++ [[ringX m n 0, ringX m n 1]] = ringR m (n + 1) := by
  unfold ringR
  rw [List.range_succ, List.map_append]
  rfl
theorem ringR_at (m n v : Nat) (hv : v < n) : (ringR m n).getD v [] = [ringX m v 0, ringX m v 1] := by simp [ringR, hv]
def ringOkB (m : Nat) (M : Nat → Int) : Bool := inB m 3 6 && !anyB (fun v => !inB (M v) 0 20) m
theorem ring_netNew {w : World} {lo m c d : Nat} {A B : Option Addr} {M : Nat → Int} (hA : OwnRows w lo A m c (ringR m m)) (hB : OwnInts w lo B m d (il m M)) (hm : m ≤ 1099511627776) : ∃ r, NetNew w lo A m r B m (fun _ => 2) (ringX m) M :=
  netNew_own hA hB hm hm (fun v hv => by rw [ringR_at m m v hv]; rfl) (fun v p hv hp => by
    rw [ringR_at m m v hv]
    match p, hp with
    | 0, _ => rfl
    | 1, _ => rfl) (fun i hi => il_getD _ _ i hi)
end Go.Proofs.Ytdjilgbcpdlkfaa
