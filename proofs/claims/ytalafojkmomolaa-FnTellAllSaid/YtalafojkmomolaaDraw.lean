/-
  The contracts of newReader, pick, one, of: whatever the code is, a pick of n is a number in 0..n-1 (0 for n below 1), and nothing turns but the reader's own block. Condition: at most a million picks.
-/
import Derived.Test.YtalafojkmomolaaGro
import Derived.Deep.QuietTactic
import Derived.BigQuiet
namespace Go.Proofs.Ytalafojkmomolaa
open Go.RowKit

/-- The slice at address a has n bytes, in a block below B. -/
def Bytes (w : World) (B : Nat) (a : Option Addr) (n : Nat) : Prop :=
  ∀ i, i < n → ∃ b off, a = some ⟨b, off, none⟩ ∧ b < B ∧ ∃ y : Nat, y < 256 ∧ w.cell? ⟨b, off + i, none⟩ = some (.int .u8 y)
/-- A reader in block b, p numbers picked so far. -/
def Rd (w : World) (b p : Nat) : Prop :=
  ∃ (a : Option Addr) (n c : Nat), Blk w b 63 #[.slice a n c, .int .i64 p] ∧ Bytes w b a n ∧ n ≤ 2000
theorem Rd.blk {w : World} {b p : Nat} (h : Rd w b p) : ∃ cs, Blk w b 63 cs := by
  obtain ⟨a, n, c, h, _⟩ := h
  exact ⟨_, h⟩
theorem Rd.lt {w : World} {b p : Nat} (h : Rd w b p) : b < w.heap.size := by
  obtain ⟨a, n, c, h, _⟩ := h
  exact h.lt
/-- What a walk is told of a slice of integers that came in: nil, or a row of cells. -/
def IsRow (k : IntKind) (w : World) (a : Option Addr) (len cap : Nat) (zs : List Int) : Prop :=
  (a = none ∧ len = 0 ∧ cap = 0 ∧ zs = []) ∨
  ∃ x, a = some x ∧ len ≤ cap ∧ cap ≤ maxLen ∧ zs.length = cap ∧ (∀ i, i < zs.length → w.cell? (x.add i) = some (.int k (zs.getD i 0))) ∧ ∀ n ∈ zs, (Lit.int k n).wf = true
theorem isRow_bytes {w : World} {a : Option Addr} {n c : Nat} {zs : List Int} (h : IsRow .u8 w a n c zs) : Bytes w w.heap.size a n ∧ n ≤ c ∧ c ≤ 9223372036854775807 := by
  rcases h with ⟨rfl, rfl, rfl, rfl⟩ | ⟨x, rfl, hl, hm, hz, hcell, hwz⟩
  · exact ⟨fun i hi => absurd hi (Nat.not_lt_zero _), Nat.le_refl _, by omega⟩
  · refine ⟨fun i hi => ?_, hl, by unfold maxLen at hm; omega⟩
    have hc := hcell i (by omega)
    have h0 := hcell 0 (by omega)
    obtain ⟨b, off, spot⟩ := x
    have hspot : spot = none := by simpa [Addr.add] using World.cell?_spot h0
    subst hspot
    have hx : (⟨b, off, none⟩ : Addr).add i = ⟨b, off + i, none⟩ := by unfold Addr.add; split <;> simp_all
    rw [hx] at hc
    have hmem : zs.getD i 0 ∈ zs := by
      rw [List.getD_eq_getElem?_getD, List.getElem?_eq_getElem (show i < zs.length by omega)]
      exact List.getElem_mem (by omega)
    have hw := hwz _ hmem
    have hb : 0 ≤ zs.getD i 0 ∧ zs.getD i 0 ≤ 255 := by
      simp only [Lit.wf, IntKind.min, IntKind.max, IntKind.signed, IntKind.bits, Bool.and_eq_true] at hw
      simp at hw
      simpa using hw
    obtain ⟨y, hy⟩ := Int.eq_ofNat_of_zero_le hb.1
    exact ⟨b, off, rfl, World.block_lt_of_cell? w _ hc, y, by omega, by rw [hc, hy]⟩
theorem Bytes.gro {b : Nat} {w w' : World} {a : Option Addr} {n : Nat} (h : Bytes w b a n) (g : Gro b w w') : Bytes w' b a n := fun i hi => by
  obtain ⟨d, off, e, hd, y, hy, hc⟩ := h i hi
  exact ⟨d, off, e, hd, y, hy, g.cell hc (Nat.ne_of_lt hd)⟩
theorem Bytes.keeps {B : Nat} {w w' : World} {a : Option Addr} {n : Nat} (h : Bytes w B a n) (k : Keeps w w') : Bytes w' B a n := fun i hi => by
  obtain ⟨d, off, e, hd, y, hy, hc⟩ := h i hi
  exact ⟨d, off, e, hd, y, hy, cell_keeps k hc⟩
theorem Rd.gro {b p : Nat} {w w' : World} (h : Rd w b p) (k : Keeps w w') : Rd w' b p := by
  obtain ⟨a, m, c, h0, hB, hm⟩ := h
  exact ⟨a, m, c, h0.keeps k, hB.keeps k, hm⟩
theorem Rd.drewN {b p : Nat} {w : World} (h : Rd w b p) (n : Nat) : Rd (w.drewN n) b p := h.gro (Keeps.drewN w n)
theorem Rd.set {b p : Nat} {w : World} {n : Nat} (h : Rd w b p) : Rd ((w.setCell ⟨b, 1, none⟩ (.int .i64 ((p : Int) + 1))).drewN n) b (p + 1) := by
  obtain ⟨a, m, c, h0, hB, hm⟩ := h
  exact ⟨a, m, c, (h0.set 1 _).keeps (Keeps.drewN _ n), hB.gro ((Gro.set b 1 w _).step (Gro.drewN b _ n)), hm⟩
/-- A store into another block leaves the reader as it was. -/
theorem Rd.set_other {b p : Nat} {w : World} (h : Rd w b p) {d o : Nat} (hd : b < d) (v : Value) : Rd (w.setCell ⟨d, o, none⟩ v) b p := by
  obtain ⟨a, m, c, h0, hB, hm⟩ := h
  exact ⟨a, m, c, h0.set_other _ _ (by simp; omega), fun i hi => (by
    obtain ⟨e, off, ea, he, y, hy, hc⟩ := hB i hi
    exact ⟨e, off, ea, he, y, hy, World.grownBy.cell (grown_set w d o v) hc (by simp; omega)⟩), hm⟩
/-- What grows elsewhere leaves the reader as it was. -/
theorem Rd.grown {b p : Nat} {w w' : World} (h : Rd w b p) {row : Option Nat} (k : w.grownBy w' row) (hr : ∀ d, row = some d → b < d) : Rd w' b p := by
  obtain ⟨a, m, c, h0, hB, hm⟩ := h
  exact ⟨a, m, c, h0.grown k (fun e => by have := hr b e.symm; omega), fun i hi => (by
    obtain ⟨e, off, ea, he, y, hy, hc⟩ := hB i hi
    exact ⟨e, off, ea, he, y, hy, World.grownBy.cell k hc (fun ee => by have := hr e ee.symm; omega)⟩), hm⟩
theorem rem_lt (k n : Nat) (h : 0 < n) : ((k : Int) % n) < n := by have := Int.emod_lt_of_pos (k : Int) (show (0 : Int) < n by omega); omega
theorem u8_byte (y : Nat) (h : y < 256) : wrap64 (y : Int) = y := IntWalk.wrap64_in _ (by omega)

/-- A number was picked: in 0..n-1, 0 for n below 1. -/
def Picked (b p : Nat) (n : Int) (w : World) (e : Ending) (w' : World) : Prop :=
  ∃ x : Nat, e = .returned (.int .i64 x) ∧ (x : Int) < max n 1 ∧ Rd w' b (p + 1) ∧ Gro b w w'

set_option maxHeartbeats 1000000 in
theorem pick_any (b p : Nat) (n : Int) (w : World) (h : Rd w b p) (hp : p ≤ 1000000) :
    Calls Try.prog 49 #[.pointer (some ⟨b, 0, none⟩), .int .i64 n] w (Picked b p n w) := by
  have HRD : Hid (Rd (w.setCell ⟨b, 1, none⟩ (.int .i64 ((p : Int) + 1))) b (p + 1)) := Lib.hid (Rd.set (n := 0) h)
  have HG : Hid (Gro b w (w.setCell ⟨b, 1, none⟩ (.int .i64 ((p : Int) + 1)))) := Lib.hid (Gro.set b 1 w _)
  have HRD' : Hid (∀ n, Rd ((w.setCell ⟨b, 1, none⟩ (.int .i64 ((p : Int) + 1))).drewN n) b (p + 1)) := Lib.hid (fun n => Rd.set (n := n) h)
  obtain ⟨a, m, c, hb, hB, hm⟩ := h
  have h0 : w.cell? ⟨b, 0, none⟩ = some (.slice a m c) := by rw [hb.cell]; rfl
  have h1 : w.cell? ⟨b, 1, none⟩ = some (.int .i64 p) := by rw [hb.cell]; rfl
  have hf := hb.frozen 1
  clear hb
  by_cases hn : n < 1
  · go_enter Try.func49, Try.ntmps49
    go_wp2
    go_ret
    exact ⟨0, rfl, by omega, HRD.out, HG.out⟩
  · obtain ⟨n, rfl⟩ := Int.eq_ofNat_of_zero_le (show 0 ≤ n by omega)
    by_cases hm0 : m = 0
    · subst hm0
      go_enter Try.func49, Try.ntmps49
      go_wp2
      go_ret
      exact ⟨0, rfl, by omega, HRD.out, HG.out⟩
    · have hm0' : ((m : Int) == 0) = false := by simp; omega
      by_cases hpm : p < m
      · have hpm' : (p : Int) < m := by omega
        obtain ⟨d, off, e, hdb, y, hy, hc⟩ := hB p hpm
        subst e
        have hc' : (w.setCell ⟨b, 1, none⟩ (.int .i64 ((p : Int) + 1))).cell? ⟨d, off + p, none⟩ = some (.int .u8 y) := (Gro.set b 1 w _).cell hc (by simp; omega)
        have hy' : (y : Int) < 256 := by omega
        have hrem := rem_lt y n (by omega)
        clear hB hm0
        go_enter Try.func49, Try.ntmps49
        go_wp2
        go_ret
        exact ⟨y % n, by simp, by omega, HRD.out, HG.out⟩
      · have i1 : p % m < m := Nat.mod_lt _ (by omega)
        have i2 : (p * 7 + 3) % m < m := Nat.mod_lt _ (by omega)
        obtain ⟨d, off, e, hdb, y, hy, hc⟩ := hB _ i1
        subst e
        obtain ⟨_, _, e, _, z, hz, hcz⟩ := hB _ i2
        cases e
        have hc' : (w.setCell ⟨b, 1, none⟩ (.int .i64 ((p : Int) + 1))).cell? ⟨d, off + p % m, none⟩ = some (.int .u8 y) := (Gro.set b 1 w _).cell hc (by simp; omega)
        have hcz' : (w.setCell ⟨b, 1, none⟩ (.int .i64 ((p : Int) + 1))).cell? ⟨d, off + (p * 7 + 3) % m, none⟩ = some (.int .u8 z) := (Gro.set b 1 w _).cell hcz (by simp; omega)
        have j1 : (p : Int) % (m : Int) < m := Int.emod_lt_of_pos _ (by omega)
        have j2 : ((p : Int) * 7 + 3) % (m : Int) < m := Int.emod_lt_of_pos _ (by omega)
        have j3 : 0 ≤ (p : Int) % (m : Int) := Int.emod_nonneg _ (by omega)
        have j4 : 0 ≤ ((p : Int) * 7 + 3) % (m : Int) := Int.emod_nonneg _ (by omega)
        have hm1 : (1 : Int) ≤ (m : Int) := by omega
        have k1 : 0 ≤ (p : Int) / (m : Int) := by have := Int.ediv_nonneg (show (0 : Int) ≤ p by omega) (show (0 : Int) ≤ m by omega); omega
        have k2 : (p : Int) / (m : Int) ≤ 1000000 := by have := Int.ediv_le_self (a := (p : Int)) (m : Int) (by omega); omega
        obtain ⟨X, hX⟩ : ∃ X : Nat, (y : Int) * 131 + (z : Int) * 1117 + (p : Int) * 29 + (p : Int) / (m : Int) * 53 = X := ⟨((y : Int) * 131 + (z : Int) * 1117 + (p : Int) * 29 + (p : Int) / (m : Int) * 53).toNat, by omega⟩
        have hXb : (X : Int) ≤ 100000000000 := by omega
        have HX := Lib.hid hX
        have hxor : X ^^^ X / 64 < 2 ^ 63 := Nat.xor_lt_two_pow (by omega) (by omega)
        have HB : Hid (bits .xor .i64 (X : Int) ((X : Int) / 64) = ((X ^^^ X / 64 : Nat) : Int)) := Lib.hid (by
          have h := bits_xor X (X / 64) (by omega) (by omega)
          rw [← h]; congr 1)
        have hpos : 0 ≤ bits .xor .i64 (X : Int) ((X : Int) / 64) := by rw [HB.out]; omega
        have hle : bits .xor .i64 (X : Int) ((X : Int) / 64) ≤ 9223372036854775807 := by rw [HB.out]; omega
        have hn1 : (1 : Int) ≤ (n : Int) := by omega
        have HF : Hid (bits .xor .i64 (X : Int) ((X : Int) / 64) % (n : Int) = (((X ^^^ X / 64) % n : Nat) : Int)) := Lib.hid (by rw [HB.out]; simp)
        have hrem : ((((X ^^^ X / 64) % n : Nat) : Int)) < n := by have := Nat.mod_lt (X ^^^ X / 64) (show 0 < n by omega); omega
        clear hB hX hxor
        go_enter Try.func49, Try.ntmps49
        go_wp2_with fail
        go_quiet (fail)
        rw [HX.out]
        clear j1 j2 j3 j4 k1 k2 hc' hcz' hcz hc
        go_wp2
        go_ret
        exact ⟨(X ^^^ X / 64) % n, ret_int HF.out, by omega, HRD'.out _, HG.out.step (Gro.drewN _ _ _)⟩

set_option maxHeartbeats 400000 in
theorem one_any (b p : Nat) (a : Option Addr) (n c : Nat) (x : Nat → Int) (w : World) (h : Rd w b p) (hp : p ≤ 1000000) (hn : 1 ≤ n) (hn2 : n ≤ 1000) (hx : Ints w a n x) (ha : ∀ d off, a = some ⟨d, off, none⟩ → d ≠ b) :
    Calls Try.prog 48 #[.pointer (some ⟨b, 0, none⟩), .slice a n c] w fun e w' => ∃ i, i < n ∧ e = .returned (.int .i64 (x i)) ∧ Rd w' b (p + 1) ∧ Gro b w w' := by
  have HX := Lib.hid hx
  clear hx
  go_enter Try.func48, Try.ntmps48
  go_wp2_with fail
  refine (pick_any b p n _ h hp).mono ?_
  rintro e w1 ⟨i, rfl, hi, hR, hG⟩
  have hin : i < n := by omega
  obtain ⟨d, off, e, hc⟩ := HX.out i hin
  subst e
  have hc' := hG.cell hc (ha d off rfl)
  have hin' : (i : Int) < n := by omega
  go_wp2
  go_ret
  exact ⟨i, hin, rfl, hR, hG⟩
/-- A new reader: in a new block, nothing picked yet. -/
def NewRd (w : World) (e : Ending) (w' : World) : Prop :=
  ∃ b : Nat, e = .returned (.pointer (some ⟨b, 0, none⟩)) ∧ Rd w' b 0 ∧ w.heap.size ≤ b ∧ Keeps w w'
set_option maxHeartbeats 400000 in
theorem newReader_any (a : Option Addr) (n c : Nat) (w : World) (hB : Bytes w w.heap.size a n) (hn : n ≤ 1099511627776) (hc : n ≤ c) (hc2 : c ≤ 9223372036854775807) :
    Calls Try.prog 30 #[.slice a n c] w (NewRd w) := by
  have HRD : Hid (∀ m, m ≤ n → m ≤ 2000 → Rd (w.alloc (.cells #[.slice a m c, .int .i64 0] 63)) w.heap.size 0) := Lib.hid (fun m hm hm2 =>
    ⟨a, m, c, Blk.new _ _ _, Bytes.keeps (fun i hi => hB i (Nat.lt_of_lt_of_le hi hm)) (Keeps.alloc _ _), hm2⟩)
  by_cases h : 2000 < n
  · go_enter Try.func30, Try.ntmps30
    go_wp2
    go_ret
    exact ⟨w.heap.size, rfl, HRD.out 2000 (by omega) (by omega), Nat.le_refl _, Keeps.alloc _ _⟩
  · go_enter Try.func30, Try.ntmps30
    go_wp2
    go_ret
    exact ⟨w.heap.size, rfl, HRD.out n (Nat.le_refl _) (by omega), Nat.le_refl _, Keeps.alloc _ _⟩

theorem ints_lit (w : World) (l : List Int) : Ints (w.alloc (.cells (l.map (Value.int .i64)).toArray 3)) (some ⟨w.heap.size, 0, none⟩) l.length (fun i => l.getD i 0) := fun i hi =>
  ⟨w.heap.size, 0, rfl, by rw [World.cell?_alloc_at _ _ _ _ rfl]; simp [hi]⟩
/-- One of the numbers of a list: it lies in lo..hi. -/
def One (b p : Nat) (lo hi : Int) (w : World) (e : Ending) (w' : World) : Prop :=
  ∃ x : Int, e = .returned (.int .i64 x) ∧ lo ≤ x ∧ x ≤ hi ∧ Rd w' b (p + 1) ∧ Gro b w w'
theorem one_lit (b p : Nat) (l : List Int) (lo hi : Int) (cs : Array Value) (g n : Nat) (w : World) (hl : ∀ x, x ∈ l → lo ≤ x ∧ x ≤ hi) (h1 : 1 ≤ l.length) (h2 : l.length ≤ 1000) (hp : p ≤ 1000000) (h : Rd w b p) (hcs : cs = (l.map (Value.int .i64)).toArray) (hg : g = w.heap.size) (hn : n = l.length) :
    Calls Try.prog 48 #[.pointer (some ⟨b, 0, none⟩), .slice (some ⟨g, 0, none⟩) n n] (w.alloc (.cells cs 3)) (One b p lo hi (w.alloc (.cells cs 3))) := by
  subst hcs
  subst hg
  subst hn
  refine (one_any b p _ l.length l.length _ _ (h.gro (Keeps.alloc _ _)) hp h1 h2 (ints_lit w l) ?_).mono ?_
  · intro d off e
    cases e
    have := h.lt
    omega
  · rintro e w' ⟨i, hi, rfl, hR, hG⟩
    have hm : l.getD i 0 ∈ l := by
      rw [List.getD_eq_getElem?_getD, List.getElem?_eq_getElem hi]
      exact List.getElem_mem hi
    exact ⟨_, rfl, (hl _ hm).1, (hl _ hm).2, hR, hG⟩
theorem one_lit_d (b p : Nat) (l : List Int) (lo hi : Int) (cs : Array Value) (g n : Nat) (w : World) (hl : ∀ x, x ∈ l → lo ≤ x ∧ x ≤ hi) (h1 : 1 ≤ l.length) (h2 : l.length ≤ 1000) (hp : p ≤ 1000000) (h : Rd w b p) (hcs : cs = (l.map (Value.int .i64)).toArray) (hg : g = w.heap.size) (hn : n = l.length) :
    Calls Try.prog 48 #[.pointer (some ⟨b, 0, none⟩), .slice (some ⟨g, 0, none⟩) n n] (w.alloc (.cells cs 3)).drew (One b p lo hi (w.alloc (.cells cs 3)).drew) :=
  one_lit b p l lo hi cs g n w.drew hl h1 h2 hp (h.gro (Keeps.drew1 w)) hcs hg hn
end Go.Proofs.Ytalafojkmomolaa
