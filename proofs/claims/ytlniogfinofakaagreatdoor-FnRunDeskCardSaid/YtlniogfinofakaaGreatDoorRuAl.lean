/-
  What the package-level variables hold, and the library's contracts under it. Conditions: lengths.
-/
import Derived.Test.YtlniogfinofakaaGreatDoorRuAj
import Derived.Test.YtlniogfinofakaaGreatDoorRuAi
import Derived.Test.YtlniogfinofakaaGreatDoorRuAd
import Derived.Test.YtlniogfinofakaaGreatDoorRows
import Derived.Shelf.Unicode.PredsPay
import Derived.Lib.QuietBelow
namespace Go.Proofs.YtlniogfinofakaaGreatDoor
set_option maxRecDepth 100000
open Go.RowKit Go.Lib
set_option linter.unusedVariables false

/-- The name of the table of the powers of ten. -/
def tabN : String := Rows.fnExactRunDeskRow.named.headD (String.ofList [])
structure Vars (w : World) : Prop where
  maxLen : ∃ m, w.cell? ⟨1, 0, none⟩ = some (.int .i64 m)
  synt : ∃ te pe, w.cell? ⟨2, 0, none⟩ = some (.iface te pe)
  rng : ∃ te pe, w.cell? ⟨3, 0, none⟩ = some (.iface te pe)
  tab : TabIs Tryz.prog w tabN .u64 pow10Tab
  et : w.cell? ⟨0, 0, none⟩ = some (.iface 142 (.agg #[.pointer (some ⟨9, 37, none⟩)]))
theorem tab_global : Tryz.prog.globalNamed tabN = some 6 := by kernel_rfl
theorem Vars.keeps {w w' : World} (h : Vars w) (k : Keeps w w') : Vars w' := by
  obtain ⟨m, h1⟩ := h.maxLen
  obtain ⟨t1, p1, h2⟩ := h.synt
  obtain ⟨t2, p2, h3⟩ := h.rng
  exact ⟨⟨m, cell_keeps k h1⟩, ⟨t1, p1, cell_keeps k h2⟩, ⟨t2, p2, cell_keeps k h3⟩, TabIs_below tab_global h.tab k, cell_keeps k h.et⟩
theorem str_eta (s : ByteArray) : (⟨s.data.toList.toArray⟩ : ByteArray) = s := by cases s; simp
theorem cut_any (s : ByteArray) (w : World) (hs : s.size < 4294967281) (h : Vars w) :
    Calls Tryz.prog 45 #[.string s, .string ⟨#[32]⟩] w fun e w' => e = .returned (.tuple #[.string ⟨(cut s.data.toList [32]).1.toArray⟩, .string ⟨(cut s.data.toList [32]).2.1.toArray⟩, .bool (cut s.data.toList [32]).2.2]) ∧ Keeps w w' := by
  obtain ⟨m, hm⟩ := h.maxLen
  refine (Any.strings_Cut lyCut s ⟨#[32]⟩ m w hs hm).mono ?_
  rintro e w' ⟨rfl, n, rfl⟩
  exact ⟨rfl, Keeps.drewN _ _⟩
theorem contains_any (s : ByteArray) (w : World) (hs : s.size < 4294967281) (h : Vars w) :
    Calls Tryz.prog 46 #[.string s, .string ⟨#[32]⟩] w fun e w' => e = .returned (.bool (contains s.data.toList [32])) ∧ w = w' := by
  obtain ⟨m, hm⟩ := h.maxLen
  refine (Any.strings_Contains lyContains s ⟨#[32]⟩ m w hs hm).mono ?_
  rintro e w' ⟨rfl, rfl⟩
  exact ⟨rfl, rfl⟩
theorem index_any (s : ByteArray) (w : World) (hs : s.size < 4294967281) (h : Vars w) :
    Calls Tryz.prog 71 #[.string s, .string ⟨#[44]⟩] w fun e w' => e = .returned (.int .i64 (index s.data.toList [44])) ∧ w = w' := by
  obtain ⟨m, hm⟩ := h.maxLen
  refine (Any.strings_Index lyIndex s ⟨#[44]⟩ m w hs hm).mono ?_
  rintro e w' ⟨rfl, rfl⟩
  exact ⟨rfl, rfl⟩
theorem itoa_any (n : Int) (w : World) (h0 : -9223372036854775808 ≤ n) (h1 : n ≤ 9223372036854775807) (h : Vars w) :
    Calls Tryz.prog 74 #[.int .i64 n] w fun e w' => e = .returned (.string ⟨(itoa n).toArray⟩) ∧ Keeps w w' := by
  refine (Any.strconv_Itoa lyItoa n h0 h1 w h.tab).mono ?_
  rintro e w' ⟨rfl, k, os, rfl⟩
  refine ⟨rfl, ⟨rfl, rfl, rfl, by simp [Sort.grow], fun j hj => ?_⟩⟩
  simp [Sort.grow, Array.getElem?_append, hj]
theorem atoi_ok (s : ByteArray) (v : Int) (w : World) (hs : s.size < 4294967281) (h : atoiAll s.data.toList = .ok v) :
    Calls Tryz.prog 73 #[.string s] w fun e w' => e = .returned (.tuple #[.int .i64 v, .nilIface]) ∧ Keeps w w' := by
  refine (Any.strconv_Atoi_ok lyAtoi s (by omega) v h w).mono ?_
  rintro e w' ⟨rfl, rfl | ⟨t, rfl⟩⟩
  · exact ⟨rfl, Keeps.refl _⟩
  · exact ⟨rfl, bytesWorld_below _ _ _⟩
theorem atoi_bad (s : ByteArray) (w : World) (hs : s.size < 4294967281) (hv : Vars w) (h : ∀ v, atoiAll s.data.toList ≠ .ok v) :
    Calls Tryz.prog 73 #[.string s] w fun e w' => (∃ (x : Int) (N : Nat), e = .returned (.tuple #[.int .i64 x, .iface 172 (.pointer (some ⟨N, 0, none⟩))])) ∧ Keeps w w' := by
  cases hc : atoiAll s.data.toList with
  | ok v => exact absurd hc (h v)
  | range =>
    obtain ⟨t1, p1, h1⟩ := hv.rng
    refine (Any.strconv_Atoi_range lyAtoi s (by omega) hc _ w h1 (.inr ⟨t1, p1, rfl⟩)).mono ?_
    rintro e w' ⟨N, rfl, _, _, hb⟩
    exact ⟨⟨_, N, rfl⟩, hb⟩
  | _ =>
    obtain ⟨t1, p1, h1⟩ := hv.synt
    refine (Any.strconv_Atoi_syntax lyAtoi s (by omega) hc _ w h1 (.inr ⟨t1, p1, rfl⟩)).mono ?_
    rintro e w' ⟨N, rfl, _, _, hb⟩
    exact ⟨⟨0, N, rfl⟩, hb⟩
theorem join_any (bk o c : Nat) (xs : List ByteArray) (sep : ByteArray) (w : World) (hcells : ∀ (j : Nat) x, xs[j]? = some x → w.cell? ⟨bk, o + j, none⟩ = some (.string x)) (hbk : bk < w.heap.size) (hN : xs.length ≤ 1099511627776) (hcap : xs.length ≤ c)
    (hlen : (join (xs.map (·.data.toList)) sep.data.toList).length ≤ 140737488355328) :
    Calls Tryz.prog 85 #[.slice (some ⟨bk, o, none⟩) xs.length c, .string sep] w fun e w' => e = .returned (.string ⟨(join (xs.map (·.data.toList)) sep.data.toList).toArray⟩) ∧ Keeps w w' :=
  Any.strings_Join lyJoin exJoin bk o c xs sep w hcells hbk (by omega) hcap hlen
/-- A builder that a call has made, and what it holds. -/
def Bld (B b : Nat) (l : List UInt8) (w : World) : Prop := IsBuilder 35 5 B b (byteCells l) w
theorem Bld.fresh (w : World) : Bld w.heap.size w.heap.size [] (w.alloc (.cells #[.pointer none, .slice none 0 0] 35)) := fresh_isBuilder _ _ w
theorem bldAt_keeps {T e : TypeId} {B b : Nat} {p : Value} {bs : List Value} {w w' : World} (h : BuilderAt T e B b p bs w) (k : Keeps w w') : BuilderAt T e B b p bs w' := by
  have hlt := h.lt
  obtain ⟨h1, v, h2, h3, h4⟩ := h
  refine ⟨h1, v, (k.block b hlt).trans h2, ?_, h4⟩
  refine ⟨h3.1, ?_⟩
  rcases h3.2 with h5 | ⟨g, cap, cur, e1, hb, hg, rest⟩
  · exact .inl h5
  · exact .inr ⟨g, cap, cur, e1, hb, (k.block g (Array.getElem?_eq_some_iff.1 hg).1).trans hg, rest⟩
theorem Bld.keeps {B b : Nat} {l : List UInt8} {w w' : World} (h : Bld B b l w) (k : Keeps w w') : Bld B b l w' := by
  rcases h with h | h
  · exact .inl (bldAt_keeps h k)
  · exact .inr (bldAt_keeps h k)
theorem ws_any (B b : Nat) (l : List UInt8) (s : ByteArray) (w0 w : World) (h : Bld B b l w) (hlen : l.length + s.size ≤ 140737488355328) (hB : B = w0.heap.size) (hk : Keeps w0 w) :
    Calls Tryz.prog 13 #[.pointer (some ⟨b, 0, none⟩), .string s] w fun e w' => e = .returned (.tuple #[.int .i64 s.size, .nilIface]) ∧ Bld B b (l ++ s.data.toList) w' ∧ Keeps w0 w' := by
  subst hB
  refine (Any.Builder_WriteString lyWS exB w0.heap.size b (byteCells l) s w h (by rw [byteCells_length]; exact hlen) hk.size).mono ?_
  rintro e w' ⟨rfl, h1, h2⟩
  refine ⟨rfl, .inr ?_, hk.trans h2⟩
  unfold byteCells
  rw [List.map_append]
  exact h1
theorem wb_any (B b : Nat) (l : List UInt8) (w0 w : World) (h : Bld B b l w) (hlen : l.length + 1 ≤ 140737488355328) (hB : B = w0.heap.size) (hk : Keeps w0 w) :
    Calls Tryz.prog 15 #[.pointer (some ⟨b, 0, none⟩), .int .u8 10] w fun e w' => e = .returned .nilIface ∧ Bld B b (l ++ [10]) w' ∧ Keeps w0 w' := by
  subst hB
  refine (Any.Builder_WriteByte lyWB exB w0.heap.size b (byteCells l) 10 w h (by rw [byteCells_length]; exact hlen) hk.size).mono ?_
  rintro e w' ⟨rfl, h1, h2⟩
  refine ⟨rfl, .inr ?_, hk.trans h2⟩
  unfold byteCells
  rw [List.map_append]
  exact h1
theorem bs_any (B b : Nat) (l : List UInt8) (w0 w : World) (h : Bld B b l w) (hB : B = w0.heap.size) (hk : Keeps w0 w) :
    Calls Tryz.prog 16 #[.pointer (some ⟨b, 0, none⟩)] w fun e w' => e = .returned (.string ⟨l.toArray⟩) ∧ Keeps w0 w' := by
  subst hB
  refine (Any.Builder_String_any lyBS exBS w0.heap.size b l w h hk.size).mono ?_
  rintro e w' ⟨rfl, h2⟩
  exact ⟨rfl, hk.trans h2⟩
end Go.Proofs.YtlniogfinofakaaGreatDoor
