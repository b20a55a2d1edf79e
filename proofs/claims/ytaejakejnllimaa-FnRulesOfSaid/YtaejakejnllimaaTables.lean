/-
  The reference's tables of rules, in memory. No condition.
-/
import Derived.Test.YtaejakejnllimaaRul
namespace Go.Proofs.Ytaejakejnllimaa
set_option linter.unusedVariables false
open Go.RowKit

def lsI (l : List Int) (i : Nat) : Int := l.getD i 0
def lsII (L : List (List Int)) (i j : Nat) : Int := (L.getD i []).getD j 0
/-- Blocks made one behind the other. -/
def made : World → List (Array Value × TypeId) → World
  | w, [] => w
  | w, c :: cs => made (w.alloc (.cells c.1 c.2)) cs
theorem made_keeps : ∀ (cs : List (Array Value × TypeId)) (w : World), Keeps w (made w cs)
  | [], w => Keeps.refl w
  | c :: cs, w => (Keeps.alloc w _).step (made_keeps cs _)
theorem made_blk : ∀ (cs : List (Array Value × TypeId)) (w : World) (i : Nat) (c : Array Value × TypeId), cs[i]? = some c → Blk (made w cs) (w.heap.size + i) c.2 c.1
  | [], w, i, c, h => by simp at h
  | d :: cs, w, 0, c, h => by
    simp at h
    subst h
    exact (Blk.new w _ _).keeps (made_keeps cs _)
  | d :: cs, w, i + 1, c, h => by
    have h1 := made_blk cs (w.alloc (.cells d.1 d.2)) i c (by simpa using h)
    rw [World.size_alloc] at h1
    rw [show w.heap.size + (i + 1) = w.heap.size + 1 + i by omega]
    exact h1
/-- Nothing turned from lo to hi. -/
def Same (lo hi : Nat) (w w' : World) : Prop := ∀ i, lo ≤ i → i < hi → w'.heap[i]? = w.heap[i]?
theorem Blk.same {w w' : World} {lo hi b : Nat} {T : TypeId} {cs : Array Value} (h : Blk w b T cs) (k : Same lo hi w w') (h1 : lo ≤ b) (h2 : b < hi) : Blk w' b T cs := (k b h1 h2).trans h
def intC (l : List Int) : Array Value × TypeId := ((l.map (Value.int .i64)).toArray, 3)
theorem ints_of {w : World} {b : Nat} {l : List Int} (h : Blk w b 3 (l.map (Value.int .i64)).toArray) : Ints w (some ⟨b, 0, none⟩) l.length (lsI l) := fun i hi => by
  refine ⟨b, 0, rfl, ?_⟩
  rw [Nat.zero_add, h.cell i]
  unfold lsI
  simp [hi]
theorem rows_of {w : World} {b b0 : Nat} {L : List (List Int)} {n : Nat} (h : Blk w b 23 ((List.range L.length).map (fun i => Value.slice (some ⟨b0 + i, 0, none⟩) n n)).toArray) (hr : ∀ i, i < L.length → (L.getD i []).length = n ∧ Blk w (b0 + i) 3 ((L.getD i []).map (Value.int .i64)).toArray) : Rows w (some ⟨b, 0, none⟩) L.length (fun i => (some ⟨b0 + i, 0, none⟩, n, n)) (lsII L) := fun i hi => by
  refine ⟨⟨b, 0, rfl, ?_⟩, ?_⟩
  · rw [Nat.zero_add, h.cell i]
    simp [hi]
  · obtain ⟨h1, h2⟩ := hr i hi
    have h3 := ints_of h2
    rw [h1] at h3
    exact h3

def tabC_some (a : Nat) : List (Array Value × TypeId) := [(#[Value.slice (some ⟨a + 1, 0, none⟩) 2 2, Value.slice (some ⟨a + 4, 0, none⟩) 2 2, Value.slice (some ⟨a + 7, 0, none⟩) 2 2], 26), (#[Value.int .i64 0, Value.int .i64 1], 3), (#[Value.int .i64 0, Value.int .i64 1], 3), (#[Value.int .i64 1, Value.int .i64 1], 3), (#[Value.slice (some ⟨a + 2, 0, none⟩) 2 2, Value.slice (some ⟨a + 3, 0, none⟩) 2 2], 23), (#[Value.int .i64 0, Value.int .i64 1], 3), (#[Value.int .i64 1, Value.int .i64 1], 3), (#[Value.slice (some ⟨a + 5, 0, none⟩) 2 2, Value.slice (some ⟨a + 6, 0, none⟩) 2 2], 23)]
set_option maxRecDepth 100000 in
set_option maxHeartbeats 4000000 in
theorem rulesOf_some (w : World) :
    Calls Try.prog 50 #[.string ⟨#[115, 111, 109, 101]⟩] w fun e w' => ∃ (S A B : Option Addr) (rA rB : Nat → Option Addr × Nat × Nat), e = .returned (.tuple #[.agg #[.slice S 2 2, .slice A 2 2, .slice B 2 2], .bool true]) ∧ (∀ W, Same w.heap.size w'.heap.size w' W → RulAt W S 2 (lsI [0, 1]) A 2 rA (lsII [[0, 1], [1, 1]]) B 2 rB (lsII [[0, 1], [1, 1]])) ∧ ((∀ i, i < 2 → (rA i).2.1 = 2) ∧ (∀ i, i < 2 → (rB i).2.1 = 2)) ∧ Keeps w w' := by
  go_enter Try.func50, Try.ntmps50
  go_wp2
  have hb := made_blk (tabC_some w.heap.size) w
  have hk : Keeps w (made w (tabC_some w.heap.size)) := made_keeps _ _
  have hlt : ∀ i c, (tabC_some w.heap.size)[i]? = some c → w.heap.size + i < (made w (tabC_some w.heap.size)).heap.size := fun i c h => (made_blk _ w i c h).lt
  have c0 : (made w (tabC_some w.heap.size)).cell? ⟨w.heap.size, 0, none⟩ = some (Value.slice (some ⟨w.heap.size + 1, 0, none⟩) 2 2) := (hb 0 _ rfl).cell 0
  have c1 : (made w (tabC_some w.heap.size)).cell? ⟨w.heap.size, 1, none⟩ = some (Value.slice (some ⟨w.heap.size + 4, 0, none⟩) 2 2) := (hb 0 _ rfl).cell 1
  have c2 : (made w (tabC_some w.heap.size)).cell? ⟨w.heap.size, 2, none⟩ = some (Value.slice (some ⟨w.heap.size + 7, 0, none⟩) 2 2) := (hb 0 _ rfl).cell 2
  obtain ⟨W, hW⟩ : ∃ W, W = made w (tabC_some w.heap.size) := ⟨_, rfl⟩
  rw [← hW] at hb hk hlt c0 c1 c2
  have key : ∀ a : Act, a.tmps[2]? = some (.pointer (some ⟨w.heap.size, 0, none⟩)) → a.tmps[3]? = some (.bool true) → a.defers = [] → bodyPost Try.prog Try.f50 (fun e w' => ∃ (S A B : Option Addr) (rA rB : Nat → Option Addr × Nat × Nat), e = .returned (.tuple #[.agg #[.slice S 2 2, .slice A 2 2, .slice B 2 2], .bool true]) ∧ (∀ W, Same w.heap.size w'.heap.size w' W → RulAt W S 2 (lsI [0, 1]) A 2 rA (lsII [[0, 1], [1, 1]]) B 2 rB (lsII [[0, 1], [1, 1]])) ∧ ((∀ i, i < 2 → (rA i).2.1 = 2) ∧ (∀ i, i < 2 → (rB i).2.1 = 2)) ∧ Keeps w w') Exit.ret a W := fun a h2 h3 hd => by
    refine bodyPost_ret (v := .tuple #[.agg #[Value.slice (some ⟨w.heap.size + 1, 0, none⟩) 2 2, Value.slice (some ⟨w.heap.size + 4, 0, none⟩) 2 2, Value.slice (some ⟨w.heap.size + 7, 0, none⟩) 2 2], .bool true]) (by simp [results, Try.results50, go_sem, c0, c1, c2, h2, h3]) hd ⟨some ⟨w.heap.size + 1, 0, none⟩, some ⟨w.heap.size + 4, 0, none⟩, some ⟨w.heap.size + 7, 0, none⟩, fun i => (some ⟨w.heap.size + 2 + i, 0, none⟩, 2, 2), fun i => (some ⟨w.heap.size + 5 + i, 0, none⟩, 2, 2), rfl, fun W' hs => ?_, ⟨fun _ _ => rfl, fun _ _ => rfl⟩, hk⟩
    have hB : ∀ i c, (tabC_some w.heap.size)[i]? = some c → Blk W' (w.heap.size + i) c.2 c.1 := fun i c h => (hb i c h).same hs (by omega) (hlt i c h)
    refine ⟨ints_of (l := [0, 1]) (hB 1 _ rfl), rows_of (L := [[0, 1], [1, 1]]) (b0 := w.heap.size + 2) (hB 4 _ rfl) (fun i hi => ?_), rows_of (L := [[0, 1], [1, 1]]) (b0 := w.heap.size + 5) (hB 7 _ rfl) (fun i hi => ?_), by omega, by omega, by omega, fun _ _ => by dsimp only; omega, fun _ _ => by dsimp only; omega⟩
    · match i, hi with
    | 0, _ => exact ⟨rfl, hB 2 _ rfl⟩
    | 1, _ => exact ⟨rfl, hB 3 _ rfl⟩
    · match i, hi with
    | 0, _ => exact ⟨rfl, hB 5 _ rfl⟩
    | 1, _ => exact ⟨rfl, hB 6 _ rfl⟩
  rw [hW] at key
  exact key _ rfl rfl rfl
def tabC_three (a : Nat) : List (Array Value × TypeId) := [(#[Value.slice (some ⟨a + 1, 0, none⟩) 4 4, Value.slice (some ⟨a + 6, 0, none⟩) 4 4, Value.slice (some ⟨a + 11, 0, none⟩) 4 4], 26), (#[Value.int .i64 0, Value.int .i64 0, Value.int .i64 0, Value.int .i64 1], 3), (#[Value.int .i64 0, Value.int .i64 1, Value.int .i64 2, Value.int .i64 3], 3), (#[Value.int .i64 1, Value.int .i64 2, Value.int .i64 3, Value.int .i64 3], 3), (#[Value.int .i64 2, Value.int .i64 3, Value.int .i64 3, Value.int .i64 3], 3), (#[Value.int .i64 3, Value.int .i64 3, Value.int .i64 3, Value.int .i64 3], 3), (#[Value.slice (some ⟨a + 2, 0, none⟩) 4 4, Value.slice (some ⟨a + 3, 0, none⟩) 4 4, Value.slice (some ⟨a + 4, 0, none⟩) 4 4, Value.slice (some ⟨a + 5, 0, none⟩) 4 4], 23), (#[Value.int .i64 0, Value.int .i64 0, Value.int .i64 0, Value.int .i64 3], 3), (#[Value.int .i64 0, Value.int .i64 0, Value.int .i64 3, Value.int .i64 3], 3), (#[Value.int .i64 0, Value.int .i64 3, Value.int .i64 3, Value.int .i64 3], 3), (#[Value.int .i64 3, Value.int .i64 3, Value.int .i64 3, Value.int .i64 3], 3), (#[Value.slice (some ⟨a + 7, 0, none⟩) 4 4, Value.slice (some ⟨a + 8, 0, none⟩) 4 4, Value.slice (some ⟨a + 9, 0, none⟩) 4 4, Value.slice (some ⟨a + 10, 0, none⟩) 4 4], 23)]
set_option maxRecDepth 100000 in
set_option maxHeartbeats 4000000 in
theorem rulesOf_three (w : World) :
    Calls Try.prog 50 #[.string ⟨#[116, 104, 114, 101, 101]⟩] w fun e w' => ∃ (S A B : Option Addr) (rA rB : Nat → Option Addr × Nat × Nat), e = .returned (.tuple #[.agg #[.slice S 4 4, .slice A 4 4, .slice B 4 4], .bool true]) ∧ (∀ W, Same w.heap.size w'.heap.size w' W → RulAt W S 4 (lsI [0, 0, 0, 1]) A 4 rA (lsII [[0, 1, 2, 3], [1, 2, 3, 3], [2, 3, 3, 3], [3, 3, 3, 3]]) B 4 rB (lsII [[0, 0, 0, 3], [0, 0, 3, 3], [0, 3, 3, 3], [3, 3, 3, 3]])) ∧ ((∀ i, i < 4 → (rA i).2.1 = 4) ∧ (∀ i, i < 4 → (rB i).2.1 = 4)) ∧ Keeps w w' := by
  go_enter Try.func50, Try.ntmps50
  go_wp2
  have hb := made_blk (tabC_three w.heap.size) w
  have hk : Keeps w (made w (tabC_three w.heap.size)) := made_keeps _ _
  have hlt : ∀ i c, (tabC_three w.heap.size)[i]? = some c → w.heap.size + i < (made w (tabC_three w.heap.size)).heap.size := fun i c h => (made_blk _ w i c h).lt
  have c0 : (made w (tabC_three w.heap.size)).cell? ⟨w.heap.size, 0, none⟩ = some (Value.slice (some ⟨w.heap.size + 1, 0, none⟩) 4 4) := (hb 0 _ rfl).cell 0
  have c1 : (made w (tabC_three w.heap.size)).cell? ⟨w.heap.size, 1, none⟩ = some (Value.slice (some ⟨w.heap.size + 6, 0, none⟩) 4 4) := (hb 0 _ rfl).cell 1
  have c2 : (made w (tabC_three w.heap.size)).cell? ⟨w.heap.size, 2, none⟩ = some (Value.slice (some ⟨w.heap.size + 11, 0, none⟩) 4 4) := (hb 0 _ rfl).cell 2
  obtain ⟨W, hW⟩ : ∃ W, W = made w (tabC_three w.heap.size) := ⟨_, rfl⟩
  rw [← hW] at hb hk hlt c0 c1 c2
  have key : ∀ a : Act, a.tmps[2]? = some (.pointer (some ⟨w.heap.size, 0, none⟩)) → a.tmps[3]? = some (.bool true) → a.defers = [] → bodyPost Try.prog Try.f50 (fun e w' => ∃ (S A B : Option Addr) (rA rB : Nat → Option Addr × Nat × Nat), e = .returned (.tuple #[.agg #[.slice S 4 4, .slice A 4 4, .slice B 4 4], .bool true]) ∧ (∀ W, Same w.heap.size w'.heap.size w' W → RulAt W S 4 (lsI [0, 0, 0, 1]) A 4 rA (lsII [[0, 1, 2, 3], [1, 2, 3, 3], [2, 3, 3, 3], [3, 3, 3, 3]]) B 4 rB (lsII [[0, 0, 0, 3], [0, 0, 3, 3], [0, 3, 3, 3], [3, 3, 3, 3]])) ∧ ((∀ i, i < 4 → (rA i).2.1 = 4) ∧ (∀ i, i < 4 → (rB i).2.1 = 4)) ∧ Keeps w w') Exit.ret a W := fun a h2 h3 hd => by
    refine bodyPost_ret (v := .tuple #[.agg #[Value.slice (some ⟨w.heap.size + 1, 0, none⟩) 4 4, Value.slice (some ⟨w.heap.size + 6, 0, none⟩) 4 4, Value.slice (some ⟨w.heap.size + 11, 0, none⟩) 4 4], .bool true]) (by simp [results, Try.results50, go_sem, c0, c1, c2, h2, h3]) hd ⟨some ⟨w.heap.size + 1, 0, none⟩, some ⟨w.heap.size + 6, 0, none⟩, some ⟨w.heap.size + 11, 0, none⟩, fun i => (some ⟨w.heap.size + 2 + i, 0, none⟩, 4, 4), fun i => (some ⟨w.heap.size + 7 + i, 0, none⟩, 4, 4), rfl, fun W' hs => ?_, ⟨fun _ _ => rfl, fun _ _ => rfl⟩, hk⟩
    have hB : ∀ i c, (tabC_three w.heap.size)[i]? = some c → Blk W' (w.heap.size + i) c.2 c.1 := fun i c h => (hb i c h).same hs (by omega) (hlt i c h)
    refine ⟨ints_of (l := [0, 0, 0, 1]) (hB 1 _ rfl), rows_of (L := [[0, 1, 2, 3], [1, 2, 3, 3], [2, 3, 3, 3], [3, 3, 3, 3]]) (b0 := w.heap.size + 2) (hB 6 _ rfl) (fun i hi => ?_), rows_of (L := [[0, 0, 0, 3], [0, 0, 3, 3], [0, 3, 3, 3], [3, 3, 3, 3]]) (b0 := w.heap.size + 7) (hB 11 _ rfl) (fun i hi => ?_), by omega, by omega, by omega, fun _ _ => by dsimp only; omega, fun _ _ => by dsimp only; omega⟩
    · match i, hi with
    | 0, _ => exact ⟨rfl, hB 2 _ rfl⟩
    | 1, _ => exact ⟨rfl, hB 3 _ rfl⟩
    | 2, _ => exact ⟨rfl, hB 4 _ rfl⟩
    | 3, _ => exact ⟨rfl, hB 5 _ rfl⟩
    · match i, hi with
    | 0, _ => exact ⟨rfl, hB 7 _ rfl⟩
    | 1, _ => exact ⟨rfl, hB 8 _ rfl⟩
    | 2, _ => exact ⟨rfl, hB 9 _ rfl⟩
    | 3, _ => exact ⟨rfl, hB 10 _ rfl⟩
  rw [hW] at key
  exact key _ rfl rfl rfl
def tabC_most (a : Nat) : List (Array Value × TypeId) := [(#[Value.slice (some ⟨a + 1, 0, none⟩) 4 4, Value.slice (some ⟨a + 6, 0, none⟩) 4 4, Value.slice (some ⟨a + 11, 0, none⟩) 4 4], 26), (#[Value.int .i64 0, Value.int .i64 1, Value.int .i64 0, Value.int .i64 1], 3), (#[Value.int .i64 0, Value.int .i64 2, Value.int .i64 0, Value.int .i64 0], 3), (#[Value.int .i64 2, Value.int .i64 1, Value.int .i64 1, Value.int .i64 1], 3), (#[Value.int .i64 2, Value.int .i64 3, Value.int .i64 2, Value.int .i64 2], 3), (#[Value.int .i64 2, Value.int .i64 3, Value.int .i64 2, Value.int .i64 3], 3), (#[Value.slice (some ⟨a + 2, 0, none⟩) 4 4, Value.slice (some ⟨a + 3, 0, none⟩) 4 4, Value.slice (some ⟨a + 4, 0, none⟩) 4 4, Value.slice (some ⟨a + 5, 0, none⟩) 4 4], 23), (#[Value.int .i64 0, Value.int .i64 2, Value.int .i64 2, Value.int .i64 2], 3), (#[Value.int .i64 2, Value.int .i64 1, Value.int .i64 3, Value.int .i64 3], 3), (#[Value.int .i64 0, Value.int .i64 1, Value.int .i64 2, Value.int .i64 2], 3), (#[Value.int .i64 0, Value.int .i64 1, Value.int .i64 2, Value.int .i64 3], 3), (#[Value.slice (some ⟨a + 7, 0, none⟩) 4 4, Value.slice (some ⟨a + 8, 0, none⟩) 4 4, Value.slice (some ⟨a + 9, 0, none⟩) 4 4, Value.slice (some ⟨a + 10, 0, none⟩) 4 4], 23)]
set_option maxRecDepth 100000 in
set_option maxHeartbeats 4000000 in
theorem rulesOf_most (w : World) :
    Calls Try.prog 50 #[.string ⟨#[109, 111, 115, 116]⟩] w fun e w' => ∃ (S A B : Option Addr) (rA rB : Nat → Option Addr × Nat × Nat), e = .returned (.tuple #[.agg #[.slice S 4 4, .slice A 4 4, .slice B 4 4], .bool true]) ∧ (∀ W, Same w.heap.size w'.heap.size w' W → RulAt W S 4 (lsI [0, 1, 0, 1]) A 4 rA (lsII [[0, 2, 0, 0], [2, 1, 1, 1], [2, 3, 2, 2], [2, 3, 2, 3]]) B 4 rB (lsII [[0, 2, 2, 2], [2, 1, 3, 3], [0, 1, 2, 2], [0, 1, 2, 3]])) ∧ ((∀ i, i < 4 → (rA i).2.1 = 4) ∧ (∀ i, i < 4 → (rB i).2.1 = 4)) ∧ Keeps w w' := by
  go_enter Try.func50, Try.ntmps50
  go_wp2
  have hb := made_blk (tabC_most w.heap.size) w
  have hk : Keeps w (made w (tabC_most w.heap.size)) := made_keeps _ _
  have hlt : ∀ i c, (tabC_most w.heap.size)[i]? = some c → w.heap.size + i < (made w (tabC_most w.heap.size)).heap.size := fun i c h => (made_blk _ w i c h).lt
  have c0 : (made w (tabC_most w.heap.size)).cell? ⟨w.heap.size, 0, none⟩ = some (Value.slice (some ⟨w.heap.size + 1, 0, none⟩) 4 4) := (hb 0 _ rfl).cell 0
  have c1 : (made w (tabC_most w.heap.size)).cell? ⟨w.heap.size, 1, none⟩ = some (Value.slice (some ⟨w.heap.size + 6, 0, none⟩) 4 4) := (hb 0 _ rfl).cell 1
  have c2 : (made w (tabC_most w.heap.size)).cell? ⟨w.heap.size, 2, none⟩ = some (Value.slice (some ⟨w.heap.size + 11, 0, none⟩) 4 4) := (hb 0 _ rfl).cell 2
  obtain ⟨W, hW⟩ : ∃ W, W = made w (tabC_most w.heap.size) := ⟨_, rfl⟩
  rw [← hW] at hb hk hlt c0 c1 c2
  have key : ∀ a : Act, a.tmps[2]? = some (.pointer (some ⟨w.heap.size, 0, none⟩)) → a.tmps[3]? = some (.bool true) → a.defers = [] → bodyPost Try.prog Try.f50 (fun e w' => ∃ (S A B : Option Addr) (rA rB : Nat → Option Addr × Nat × Nat), e = .returned (.tuple #[.agg #[.slice S 4 4, .slice A 4 4, .slice B 4 4], .bool true]) ∧ (∀ W, Same w.heap.size w'.heap.size w' W → RulAt W S 4 (lsI [0, 1, 0, 1]) A 4 rA (lsII [[0, 2, 0, 0], [2, 1, 1, 1], [2, 3, 2, 2], [2, 3, 2, 3]]) B 4 rB (lsII [[0, 2, 2, 2], [2, 1, 3, 3], [0, 1, 2, 2], [0, 1, 2, 3]])) ∧ ((∀ i, i < 4 → (rA i).2.1 = 4) ∧ (∀ i, i < 4 → (rB i).2.1 = 4)) ∧ Keeps w w') Exit.ret a W := fun a h2 h3 hd => by
    refine bodyPost_ret (v := .tuple #[.agg #[Value.slice (some ⟨w.heap.size + 1, 0, none⟩) 4 4, Value.slice (some ⟨w.heap.size + 6, 0, none⟩) 4 4, Value.slice (some ⟨w.heap.size + 11, 0, none⟩) 4 4], .bool true]) (by simp [results, Try.results50, go_sem, c0, c1, c2, h2, h3]) hd ⟨some ⟨w.heap.size + 1, 0, none⟩, some ⟨w.heap.size + 6, 0, none⟩, some ⟨w.heap.size + 11, 0, none⟩, fun i => (some ⟨w.heap.size + 2 + i, 0, none⟩, 4, 4), fun i => (some ⟨w.heap.size + 7 + i, 0, none⟩, 4, 4), rfl, fun W' hs => ?_, ⟨fun _ _ => rfl, fun _ _ => rfl⟩, hk⟩
    have hB : ∀ i c, (tabC_most w.heap.size)[i]? = some c → Blk W' (w.heap.size + i) c.2 c.1 := fun i c h => (hb i c h).same hs (by omega) (hlt i c h)
    refine ⟨ints_of (l := [0, 1, 0, 1]) (hB 1 _ rfl), rows_of (L := [[0, 2, 0, 0], [2, 1, 1, 1], [2, 3, 2, 2], [2, 3, 2, 3]]) (b0 := w.heap.size + 2) (hB 6 _ rfl) (fun i hi => ?_), rows_of (L := [[0, 2, 2, 2], [2, 1, 3, 3], [0, 1, 2, 2], [0, 1, 2, 3]]) (b0 := w.heap.size + 7) (hB 11 _ rfl) (fun i hi => ?_), by omega, by omega, by omega, fun _ _ => by dsimp only; omega, fun _ _ => by dsimp only; omega⟩
    · match i, hi with
    | 0, _ => exact ⟨rfl, hB 2 _ rfl⟩
    | 1, _ => exact ⟨rfl, hB 3 _ rfl⟩
    | 2, _ => exact ⟨rfl, hB 4 _ rfl⟩
    | 3, _ => exact ⟨rfl, hB 5 _ rfl⟩
    · match i, hi with
    | 0, _ => exact ⟨rfl, hB 7 _ rfl⟩
    | 1, _ => exact ⟨rfl, hB 8 _ rfl⟩
    | 2, _ => exact ⟨rfl, hB 9 _ rfl⟩
    | 3, _ => exact ⟨rfl, hB 10 _ rfl⟩
  rw [hW] at key
  exact key _ rfl rfl rfl
def tabC_odd (a : Nat) : List (Array Value × TypeId) := [(#[Value.slice (some ⟨a + 1, 0, none⟩) 4 4, Value.slice (some ⟨a + 6, 0, none⟩) 4 4, Value.slice (some ⟨a + 11, 0, none⟩) 4 4], 26), (#[Value.int .i64 0, Value.int .i64 1, Value.int .i64 0, Value.int .i64 1], 3), (#[Value.int .i64 0, Value.int .i64 1, Value.int .i64 0, Value.int .i64 0], 3), (#[Value.int .i64 1, Value.int .i64 0, Value.int .i64 1, Value.int .i64 1], 3), (#[Value.int .i64 2, Value.int .i64 3, Value.int .i64 2, Value.int .i64 2], 3), (#[Value.int .i64 2, Value.int .i64 3, Value.int .i64 3, Value.int .i64 3], 3), (#[Value.slice (some ⟨a + 2, 0, none⟩) 4 4, Value.slice (some ⟨a + 3, 0, none⟩) 4 4, Value.slice (some ⟨a + 4, 0, none⟩) 4 4, Value.slice (some ⟨a + 5, 0, none⟩) 4 4], 23), (#[Value.int .i64 2, Value.int .i64 3, Value.int .i64 2, Value.int .i64 2], 3), (#[Value.int .i64 3, Value.int .i64 2, Value.int .i64 3, Value.int .i64 3], 3), (#[Value.int .i64 0, Value.int .i64 1, Value.int .i64 2, Value.int .i64 3], 3), (#[Value.int .i64 0, Value.int .i64 1, Value.int .i64 2, Value.int .i64 3], 3), (#[Value.slice (some ⟨a + 7, 0, none⟩) 4 4, Value.slice (some ⟨a + 8, 0, none⟩) 4 4, Value.slice (some ⟨a + 9, 0, none⟩) 4 4, Value.slice (some ⟨a + 10, 0, none⟩) 4 4], 23)]
set_option maxRecDepth 100000 in
set_option maxHeartbeats 4000000 in
theorem rulesOf_odd (w : World) :
    Calls Try.prog 50 #[.string ⟨#[111, 100, 100]⟩] w fun e w' => ∃ (S A B : Option Addr) (rA rB : Nat → Option Addr × Nat × Nat), e = .returned (.tuple #[.agg #[.slice S 4 4, .slice A 4 4, .slice B 4 4], .bool true]) ∧ (∀ W, Same w.heap.size w'.heap.size w' W → RulAt W S 4 (lsI [0, 1, 0, 1]) A 4 rA (lsII [[0, 1, 0, 0], [1, 0, 1, 1], [2, 3, 2, 2], [2, 3, 3, 3]]) B 4 rB (lsII [[2, 3, 2, 2], [3, 2, 3, 3], [0, 1, 2, 3], [0, 1, 2, 3]])) ∧ ((∀ i, i < 4 → (rA i).2.1 = 4) ∧ (∀ i, i < 4 → (rB i).2.1 = 4)) ∧ Keeps w w' := by
  go_enter Try.func50, Try.ntmps50
  go_wp2
  have hb := made_blk (tabC_odd w.heap.size) w
  have hk : Keeps w (made w (tabC_odd w.heap.size)) := made_keeps _ _
  have hlt : ∀ i c, (tabC_odd w.heap.size)[i]? = some c → w.heap.size + i < (made w (tabC_odd w.heap.size)).heap.size := fun i c h => (made_blk _ w i c h).lt
  have c0 : (made w (tabC_odd w.heap.size)).cell? ⟨w.heap.size, 0, none⟩ = some (Value.slice (some ⟨w.heap.size + 1, 0, none⟩) 4 4) := (hb 0 _ rfl).cell 0
  have c1 : (made w (tabC_odd w.heap.size)).cell? ⟨w.heap.size, 1, none⟩ = some (Value.slice (some ⟨w.heap.size + 6, 0, none⟩) 4 4) := (hb 0 _ rfl).cell 1
  have c2 : (made w (tabC_odd w.heap.size)).cell? ⟨w.heap.size, 2, none⟩ = some (Value.slice (some ⟨w.heap.size + 11, 0, none⟩) 4 4) := (hb 0 _ rfl).cell 2
  obtain ⟨W, hW⟩ : ∃ W, W = made w (tabC_odd w.heap.size) := ⟨_, rfl⟩
  rw [← hW] at hb hk hlt c0 c1 c2
  have key : ∀ a : Act, a.tmps[2]? = some (.pointer (some ⟨w.heap.size, 0, none⟩)) → a.tmps[3]? = some (.bool true) → a.defers = [] → bodyPost Try.prog Try.f50 (fun e w' => ∃ (S A B : Option Addr) (rA rB : Nat → Option Addr × Nat × Nat), e = .returned (.tuple #[.agg #[.slice S 4 4, .slice A 4 4, .slice B 4 4], .bool true]) ∧ (∀ W, Same w.heap.size w'.heap.size w' W → RulAt W S 4 (lsI [0, 1, 0, 1]) A 4 rA (lsII [[0, 1, 0, 0], [1, 0, 1, 1], [2, 3, 2, 2], [2, 3, 3, 3]]) B 4 rB (lsII [[2, 3, 2, 2], [3, 2, 3, 3], [0, 1, 2, 3], [0, 1, 2, 3]])) ∧ ((∀ i, i < 4 → (rA i).2.1 = 4) ∧ (∀ i, i < 4 → (rB i).2.1 = 4)) ∧ Keeps w w') Exit.ret a W := fun a h2 h3 hd => by
    refine bodyPost_ret (v := .tuple #[.agg #[Value.slice (some ⟨w.heap.size + 1, 0, none⟩) 4 4, Value.slice (some ⟨w.heap.size + 6, 0, none⟩) 4 4, Value.slice (some ⟨w.heap.size + 11, 0, none⟩) 4 4], .bool true]) (by simp [results, Try.results50, go_sem, c0, c1, c2, h2, h3]) hd ⟨some ⟨w.heap.size + 1, 0, none⟩, some ⟨w.heap.size + 6, 0, none⟩, some ⟨w.heap.size + 11, 0, none⟩, fun i => (some ⟨w.heap.size + 2 + i, 0, none⟩, 4, 4), fun i => (some ⟨w.heap.size + 7 + i, 0, none⟩, 4, 4), rfl, fun W' hs => ?_, ⟨fun _ _ => rfl, fun _ _ => rfl⟩, hk⟩
    have hB : ∀ i c, (tabC_odd w.heap.size)[i]? = some c → Blk W' (w.heap.size + i) c.2 c.1 := fun i c h => (hb i c h).same hs (by omega) (hlt i c h)
    refine ⟨ints_of (l := [0, 1, 0, 1]) (hB 1 _ rfl), rows_of (L := [[0, 1, 0, 0], [1, 0, 1, 1], [2, 3, 2, 2], [2, 3, 3, 3]]) (b0 := w.heap.size + 2) (hB 6 _ rfl) (fun i hi => ?_), rows_of (L := [[2, 3, 2, 2], [3, 2, 3, 3], [0, 1, 2, 3], [0, 1, 2, 3]]) (b0 := w.heap.size + 7) (hB 11 _ rfl) (fun i hi => ?_), by omega, by omega, by omega, fun _ _ => by dsimp only; omega, fun _ _ => by dsimp only; omega⟩
    · match i, hi with
    | 0, _ => exact ⟨rfl, hB 2 _ rfl⟩
    | 1, _ => exact ⟨rfl, hB 3 _ rfl⟩
    | 2, _ => exact ⟨rfl, hB 4 _ rfl⟩
    | 3, _ => exact ⟨rfl, hB 5 _ rfl⟩
    · match i, hi with
    | 0, _ => exact ⟨rfl, hB 7 _ rfl⟩
    | 1, _ => exact ⟨rfl, hB 8 _ rfl⟩
    | 2, _ => exact ⟨rfl, hB 9 _ rfl⟩
    | 3, _ => exact ⟨rfl, hB 10 _ rfl⟩
  rw [hW] at key
  exact key _ rfl rfl rfl
end Go.Proofs.Ytaejakejnllimaa
