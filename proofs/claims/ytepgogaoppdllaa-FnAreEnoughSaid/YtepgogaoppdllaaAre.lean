/-
  The contract of AreEnough of the program: its closure searches all stops. Condition: at most three processes.
-/
import Derived.Test.YtepgogaoppdllaaEnough
import Derived.Test.YtepgogaoppdllaaAgreed
import Derived.Laws.EntriesVeiled
import Derived.Deep.LoopGhost
namespace Go.Proofs.Ytepgogaoppdllaa
open Go.RowKit

/-- Below lo only block b has turned. -/
def Chg (lo b : Nat) (w w' : World) : Prop := w'.os = w.os ∧ w'.tape = w.tape ∧ w'.output = w.output ∧ w.heap.size ≤ w'.heap.size ∧ ∀ i, i < w.heap.size → i < lo → i ≠ b → w'.heap[i]? = w.heap[i]?
section
variable {lo b : Nat} {w w1 w2 : World}
theorem Chg.refl (lo b : Nat) (w : World) : Chg lo b w w := ⟨rfl, rfl, rfl, Nat.le_refl _, fun _ _ _ _ => rfl⟩
theorem Chg.step (h : Chg lo b w w1) (k : Chg lo b w1 w2) : Chg lo b w w2 :=
  ⟨k.1.trans h.1, k.2.1.trans h.2.1, k.2.2.1.trans h.2.2.1, Nat.le_trans h.2.2.2.1 k.2.2.2.1, fun i hi h1 h2 => (k.2.2.2.2 i (Nat.lt_of_lt_of_le hi h.2.2.2.1) h1 h2).trans (h.2.2.2.2 i hi h1 h2)⟩
theorem Chg.ofKeeps (h : Keeps w w1) : Chg lo b w w1 := ⟨h.os, h.tape, h.output, h.size, fun i hi _ _ => h.block i hi⟩
theorem Chg.ofGrown {row : Option Nat} (h : w.grownBy w1 row) (hr : ∀ d, row = some d → lo ≤ d) : Chg lo b w w1 := ⟨h.os, h.tape, h.output, h.size, fun i hi h1 _ => h.block i hi (fun e => by have := hr i e.symm; omega)⟩
theorem Chg.set (lo b o : Nat) (w : World) (v : Value) : Chg lo b w (w.setCell ⟨b, o, none⟩ v) := ⟨rfl, rfl, rfl, by simp [World.setCell], fun i _ _ hn => Below.heap_setCell _ _ _ _ hn⟩
theorem Chg.size (h : Chg lo b w w1) : w.heap.size ≤ w1.heap.size := h.2.2.2.1
theorem Chg.cell (h : Chg lo b w w1) {a : Addr} {v : Value} (hc : w.cell? a = some v) (h1 : a.block < lo) (h2 : a.block ≠ b) : w1.cell? a = some v := by
  rw [← hc]
  exact World.cell?_of_block (h.2.2.2.2 _ (World.block_lt_of_cell? w _ hc) h1 h2)
theorem Chg.keeps {w0 : World} (h : Chg lo b w w1) (k : Keeps w0 w) (hl : w0.heap.size ≤ lo) (hb : w0.heap.size ≤ b) : Keeps w0 w1 :=
  ⟨h.1.trans k.os, h.2.1.trans k.tape, h.2.2.1.trans k.output, Nat.le_trans k.size h.size, fun i hi => (h.2.2.2.2 i (Nat.lt_of_lt_of_le hi k.size) (by omega) (by omega)).trans (k.block i hi)⟩
end
theorem ne_some' {i g : Nat} (h : i ≠ g) : some i ≠ some g := fun e => h (by simpa using e)
theorem OwnStops.cut {w : World} {lo g m c : Nat} {zs : List Int} {a1 a2 a3 : Int} (h : OwnStops w lo (some ⟨g, 0, none⟩) (m + 1) c (zs ++ [a1, a2, a3])) (hz : zs.length = m * 3) : OwnStops w lo (some ⟨g, 0, none⟩) m c zs := by
  refine ⟨by simpa using hz, ?_⟩
  rcases h.2 with ⟨e, _⟩ | ⟨g', cap, cur, e, hg, r1, r2, r3, r4, r5⟩
  · cases e
  · cases e
    refine .inr ⟨g, c, cur, rfl, hg, r1, by omega, r3, r4, ?_⟩
    have h2 : (cur.toList.take ((m + 1) * 3)).take (m * 3) = cur.toList.take (m * 3) := by rw [List.take_take]; congr 1; omega
    rw [← h2, r5, ← List.map_take, List.take_append_of_le_length (by omega), List.take_of_length_le (by omega)]
theorem stops_cap {w : World} {lo g m c : Nat} {zs : List Int} (h : OwnStops w lo (some ⟨g, 0, none⟩) m c zs) : m ≤ c ∧ c ≤ 9223372036854775807 := by
  rcases h.2 with ⟨e, h0⟩ | ⟨g', cap, cur, e, hg, r1, r2, r3, r4, r5⟩
  · cases e
  · cases e
    exact ⟨r2, by unfold maxLen at r3; omega⟩
/-- The closure's boxes: how many processes, rounds, stops; the closure itself; the inputs. -/
def ABox (n s R gi bn bR br bf bs : Nat) (x : Nat → Int) (w : World) : Prop :=
  w.cell? ⟨bn, 0, none⟩ = some (.int .i64 n) ∧ w.cell? ⟨br, 0, none⟩ = some (.int .i64 R) ∧ w.cell? ⟨bs, 0, none⟩ = some (.int .i64 s) ∧
  w.cell? ⟨bf, 0, none⟩ = some (.func (.func 59) #[] #[.pointer (some ⟨bn, 0, none⟩), .pointer (some ⟨bR, 0, none⟩), .pointer (some ⟨br, 0, none⟩), .pointer (some ⟨bf, 0, none⟩), .pointer (some ⟨bs, 0, none⟩)]) ∧
  (∀ i, i < n → w.cell? ⟨gi, 0 + i, none⟩ = some (.int .i64 (x i)))
theorem ABox.chg {n s R gi lo bn bR br bf bs : Nat} {x : Nat → Int} {w w' : World} (h : ABox n s R gi bn bR br bf bs x w) (k : Chg lo bR w w') (h1 : bn < lo ∧ bn ≠ bR) (h2 : br < lo ∧ br ≠ bR) (h3 : bs < lo ∧ bs ≠ bR) (h4 : bf < lo ∧ bf ≠ bR) (h5 : gi < lo ∧ gi ≠ bR) : ABox n s R gi bn bR br bf bs x w' :=
  ⟨k.cell h.1 h1.1 h1.2, k.cell h.2.1 h2.1 h2.2, k.cell h.2.2.1 h3.1 h3.2, k.cell h.2.2.2.1 h4.1 h4.2, fun i hi => k.cell (h.2.2.2.2 i hi) h5.1 h5.2⟩
theorem ABox.ints {n s R gi bn bR br bf bs : Nat} {x : Nat → Int} {w : World} (h : ABox n s R gi bn bR br bf bs x w) : Ints w (some ⟨gi, 0, none⟩) n x := fun i hi => ⟨gi, 0, rfl, h.2.2.2.2 i hi⟩
/-- What the closure leaves: its answer, the stops as they were. -/
def APost (V : Bool) (n ci gi lo bR m : Nat) (zs : List Int) (w : World) (e : Ending) (w' : World) : Prop :=
  e = .returned (.bool V) ∧ ∃ (S : Option Addr) (c : Nat), Blk w' bR 26 #[.slice (some ⟨gi, 0, none⟩) n ci, .slice S m c] ∧ OwnStops w' lo S m c zs ∧ Chg lo bR w w'
set_option maxRecDepth 100000 in
set_option maxHeartbeats 8000000 in
theorem arec_any (n s R ci gi lo bn bR br bf bs : Nat) (x : Nat → Int) (hn : n ≤ 3) (hs : s ≤ 3) (hR : R ≤ 4) (g1 : bn < lo ∧ bn ≠ bR) (g2 : br < lo ∧ br ≠ bR) (g3 : bs < lo ∧ bs ≠ bR) (g4 : bf < lo ∧ bf ≠ bR) (g5 : gi < lo ∧ gi ≠ bR) (g6 : bR < lo) :
    ∀ (f p m : Nat) (zs : List Int) (S : Option Addr) (c : Nat) (w : World), p + f = n → m ≤ s → RunZ n x p m zs → ABox n s R gi bn bR br bf bs x w → lo ≤ w.heap.size →
      Blk w bR 26 #[.slice (some ⟨gi, 0, none⟩) n ci, .slice S m c] → OwnStops w lo S m c zs →
      Calls Try.prog 59 #[.int .i64 p, .pointer (some ⟨bn, 0, none⟩), .pointer (some ⟨bR, 0, none⟩), .pointer (some ⟨br, 0, none⟩), .pointer (some ⟨bf, 0, none⟩), .pointer (some ⟨bs, 0, none⟩)] w (APost (treeI n s R x f p m zs) n ci gi lo bR m zs w) := by
  have hf : ∀ (args : Array Value) (w : World), (callFunc 59 args).run Try.prog w = .ok (.enter 59 args) w := fun _ _ => rfl
  have G := Lib.hid (And.intro g1 (And.intro g2 (And.intro g3 (And.intro g4 g5))))
  have hlR := g6
  clear g1 g2 g3 g4 g5
  intro f
  induction f with
  | zero =>
    intro p m zs S c w hp hm hZ hB hlo hK hO
    obtain rfl : p = n := by omega
    have CA := Lib.hid (agreed_any (some ⟨gi, 0, none⟩) S p ci m c R x (stopsOf zs) w (by omega) hR hB.ints hO.stops hZ.ok)
    have HV : Hid (agrB p (dec p x m (stopsOf zs) R) = treeI p s R x 0 p m zs) := Lib.hid rfl
    obtain ⟨c1, c2, _, _, _⟩ := hB
    have d0 : w.cell? ⟨bR, 0, none⟩ = some (.slice (some ⟨gi, 0, none⟩) p ci) := hK.cell 0
    have d1 : w.cell? ⟨bR, 1, none⟩ = some (.slice S m c) := hK.cell 1
    have HK := Lib.hid hK
    have HO := Lib.hid hO
    have hpp : ((p : Int) == (p : Int)) = true := by simp
    clear hK hO hZ
    go_enter Try.func59, Try.ntmps59
    go_wp2_with fail
    refine CA.out.mono ?_
    rintro e w1 ⟨rfl, hk1⟩
    rw [HV.out]
    go_wp2
    go_ret
    exact ⟨rfl, S, c, HK.out.keeps hk1, HO.out.keeps hk1, Chg.ofKeeps hk1⟩
  | succ f ih =>
    intro p m zs S c w hp hm hZ hB hlo hK hO
    have hpn : p < n := by omega
    have HIH : Hid (∀ (m : Nat) (zs : List Int) (S : Option Addr) (c : Nat) (w : World), m ≤ s → RunZ n x (p + 1) m zs → ABox n s R gi bn bR br bf bs x w → lo ≤ w.heap.size →
      Blk w bR 26 #[.slice (some ⟨gi, 0, none⟩) n ci, .slice S m c] → OwnStops w lo S m c zs →
      Calls Try.prog 59 #[.int .i64 ((p : Int) + 1), .pointer (some ⟨bn, 0, none⟩), .pointer (some ⟨bR, 0, none⟩), .pointer (some ⟨br, 0, none⟩), .pointer (some ⟨bf, 0, none⟩), .pointer (some ⟨bs, 0, none⟩)] w (APost (treeI n s R x f (p + 1) m zs) n ci gi lo bR m zs w)) :=
      Lib.hid (fun m zs S c w h1 h2 h3 h4 h5 h6 => ih (p + 1) m zs S c w (by omega) h1 h2 h3 h4 h5 h6)
    clear ih
    have HT : Hid (treeI n s R x (f + 1) p m zs = (treeI n s R x f (p + 1) m zs && (decide (m = s) || allN (fun r => allN (fun h => treeI n s R x f (p + 1) (m + 1) (zs ++ [(p : Int), ((r + 1 : Nat) : Int), (h : Int)])) (2 ^ n)) 4))) := Lib.hid rfl
    have HB := Lib.hid hB
    have HZ := Lib.hid hZ
    have C1 := Lib.hid (HIH.out m zs S c w hm (hZ.wider (by omega)) hB hlo hK hO)
    obtain ⟨c1, c2, c3, c4, _⟩ := hB
    have hpe : ((p : Int) == (n : Int)) = false := by simp; omega
    have hpi : (p : Int) < n := by omega
    clear hK hO hZ
    go_enter Try.func59, Try.ntmps59
    go_wp2_with fail
    refine C1.out.mono ?_
    intro e w1 hA
    obtain ⟨rfl, S1, cc1, hK1, hO1, hC1⟩ := hA
    have HK1 := Lib.hid hK1
    have HO1 := Lib.hid hO1
    have HC1 := Lib.hid hC1
    cases e1 : treeI n s R x f (p + 1) m zs
    · have HV : Hid (false = treeI n s R x (f + 1) p m zs) := Lib.hid (by rw [HT.out, e1]; rfl)
      clear hK1 hO1 hC1 e1
      go_wp2
      go_ret
      rw [← HV.out]
      exact ⟨rfl, S1, cc1, HK1.out, HO1.out, HC1.out⟩
    · have HB1 := Lib.hid (HB.out.chg hC1 G.out.1 G.out.2.1 G.out.2.2.1 G.out.2.2.2.1 G.out.2.2.2.2)
      have hlo1 : lo ≤ w1.heap.size := Nat.le_trans hlo hC1.size
      have E1 := Lib.hid e1
      have d1 : w1.cell? ⟨bR, 1, none⟩ = some (.slice S1 m cc1) := hK1.cell 1
      obtain ⟨b1, b2, b3, b4, _⟩ := HB1.out
      clear c1 c2 c3 c4 hK1 hO1 hC1 e1
      by_cases hms : m = s
      · have hmse : ((m : Int) == (s : Int)) = true := by simp [hms]
        have HV : Hid (true = treeI n s R x (f + 1) p m zs) := Lib.hid (by rw [HT.out, E1.out]; simp [hms])
        clear hms
        go_wp2
        go_ret
        rw [← HV.out]
        exact ⟨rfl, S1, cc1, HK1.out, HO1.out, HC1.out⟩
      · have hmse : ((m : Int) == (s : Int)) = false := by simp; omega
        have hms1 : m + 1 ≤ s := by omega
        have HT2 : Hid (treeI n s R x (f + 1) p m zs = allN (fun r => allN (fun h => treeI n s R x f (p + 1) (m + 1) (zs ++ [(p : Int), ((r + 1 : Nat) : Int), (h : Int)])) (2 ^ n)) 4) := Lib.hid (by rw [HT.out, E1.out]; simp [hms])
        have hp8 : 2 ^ n ≤ 8 := Nat.le_trans (Nat.pow_le_pow_right (by omega) hn) (by omega)
        have HP := Lib.hid (wrapPow n (by omega))
        have HLEN := Lib.hid HZ.out.len
        clear hms
        go_wp2_with fail
        obtain ⟨wd, rfl⟩ : ∃ wd : World, wd = w1 := ⟨_, rfl⟩
        go_loopw [8] (fun i wr => ∃ (r : Nat) (S2 : Option Addr) (c2 : Nat), r ≤ 4 ∧ i = .int .i64 ((r : Int) + 1) ∧ Hid (allN (fun r => allN (fun h => treeI n s R x f (p + 1) (m + 1) (zs ++ [(p : Int), ((r + 1 : Nat) : Int), (h : Int)])) (2 ^ n)) r = true) ∧ Hid (Blk wr bR 26 #[.slice (some ⟨gi, 0, none⟩) n ci, .slice S2 m c2]) ∧ Hid (OwnStops wr lo S2 m c2 zs) ∧ Chg lo bR wd wr) (fun i _ => 5 - (intOf i).toNat)
        case atStart => exact ⟨0, S1, cc1, by omega, rfl, Lib.hid rfl, HK1, HO1, Chg.refl _ _ _⟩
        case round =>
          clear b1 b2 b3 b4 d1
          obtain ⟨r, S2, c2, hr, rfl, HALL, HKr, HOr, hC⟩ := hrel
          by_cases hlt : r < 4
          · have hri : (r : Int) + 1 ≤ 4 := by omega
            have HBr := Lib.hid (HB1.out.chg hC G.out.1 G.out.2.1 G.out.2.2.1 G.out.2.2.2.1 G.out.2.2.2.2)
            obtain ⟨b1, b2, b3, b4, _⟩ := HBr.out
            have HNX := Lib.hid (show allN (fun r => allN (fun h => treeI n s R x f (p + 1) (m + 1) (zs ++ [(p : Int), ((r + 1 : Nat) : Int), (h : Int)])) (2 ^ n)) (r + 1) = (allN (fun r => allN (fun h => treeI n s R x f (p + 1) (m + 1) (zs ++ [(p : Int), ((r + 1 : Nat) : Int), (h : Int)])) (2 ^ n)) r && allN (fun h => treeI n s R x f (p + 1) (m + 1) (zs ++ [(p : Int), ((r + 1 : Nat) : Int), (h : Int)])) (2 ^ n)) from rfl)
            have HBAD : Hid (∀ h : Nat, h < 2 ^ n → treeI n s R x f (p + 1) (m + 1) (zs ++ [(p : Int), ((r + 1 : Nat) : Int), (h : Int)]) = false → false = treeI n s R x (f + 1) p m zs) := Lib.hid (fun h hh e => by
              rw [HT2.out]
              exact (allN_false _ 4 r hlt (allN_false _ (2 ^ n) h hh e)).symm)
            have HZA : Hid (∀ h : Nat, h < 2 ^ n → RunZ n x (p + 1) (m + 1) (zs ++ [(p : Int), ((r + 1 : Nat) : Int), (h : Int)])) := Lib.hid (fun h hh => HZ.out.add p r h (Nat.le_refl _) hpn hlt hh)
            generalize hP : 2 ^ n = P at *
            have HPE := Lib.hid hP
            clear hP
            go_wp2_with fail
            rw [HP.out]
            go_loopw [33] (fun i wi => ∃ (h : Nat) (S3 : Option Addr) (c3 : Nat), h ≤ P ∧ i = .int .i64 h ∧ Hid (allN (fun h => treeI n s R x f (p + 1) (m + 1) (zs ++ [(p : Int), ((r + 1 : Nat) : Int), (h : Int)])) h = true) ∧ Hid (Blk wi bR 26 #[.slice (some ⟨gi, 0, none⟩) n ci, .slice S3 m c3]) ∧ Hid (OwnStops wi lo S3 m c3 zs) ∧ Chg lo bR wd wi) (fun i _ => P - (intOf i).toNat)
            case atStart => exact ⟨0, S2, c2, by omega, rfl, Lib.hid rfl, HKr, HOr, hC⟩
            case round =>
              clear b1 b2 b3 b4 HBr HKr HOr hC
              obtain ⟨h, S3, c3, hh, rfl, HAH, HKr, HOr, hC⟩ := hrel
              by_cases hlth : h < P
              · have hhi : (h : Int) < P := by omega
                have HBr := Lib.hid (HB1.out.chg hC G.out.1 G.out.2.1 G.out.2.2.1 G.out.2.2.2.1 G.out.2.2.2.2)
                obtain ⟨b1, b2, b3, b4, _⟩ := HBr.out
                have d1 : wr.cell? ⟨bR, 1, none⟩ = some (.slice S3 m c3) := HKr.out.cell 1
                have hlor : lo ≤ wr.heap.size := Nat.le_trans hlo1 hC.size
                have kA := Keeps.alloc wr (.cells #[.int .i64 p, .int .i64 ((r : Int) + 1), .int .i64 h] 65)
                have hKa := HKr.out.keeps kA
                have hOa := HOr.out.keeps kA
                have hloa := Nat.le_trans hlor kA.size
                have hBa := Blk.new wr #[.int .i64 p, .int .i64 ((r : Int) + 1), .int .i64 h] 65
                have CA := Lib.hid (Chg.ofKeeps (lo := lo) (b := bR) kA)
                have HKa := Lib.hid hKa
                have HNH := Lib.hid (show allN (fun h => treeI n s R x f (p + 1) (m + 1) (zs ++ [(p : Int), ((r + 1 : Nat) : Int), (h : Int)])) (h + 1) = (allN (fun h => treeI n s R x f (p + 1) (m + 1) (zs ++ [(p : Int), ((r + 1 : Nat) : Int), (h : Int)])) h && treeI n s R x f (p + 1) (m + 1) (zs ++ [(p : Int), ((r + 1 : Nat) : Int), (h : Int)])) from rfl)
                have HBD := Lib.hid (HBAD.out h hlth)
                have HZN := Lib.hid (HZA.out h hlth)
                have hbfR : bf ≠ bR := G.out.2.2.2.1.2
                have HNS : Hid (OwnStops (wr.alloc (.cells #[.int .i64 p, .int .i64 ((r : Int) + 1), .int .i64 h] 65)) lo S3 m c3 zs → some (⟨bf, 0, none⟩ : Addr).block ≠ S3.map (·.block)) := Lib.hid (fun ho e => by have := (own_block ho bf e.symm).1; have := G.out.2.2.2.1.1; omega)
                have HRC : Hid (((r : Nat) : Int) + 1 = ((r + 1 : Nat) : Int)) := Lib.hid (by omega)
                generalize hT : treeI n s R x f (p + 1) (m + 1) (zs ++ [(p : Int), ((r + 1 : Nat) : Int), (h : Int)]) = tv at *
                have HTV := Lib.hid hT
                clear hT hKa
                go_wp2_with (first | (at_builtin; refine wp_appS rfl _ _ rfl lo S3 m c3 zs _ rfl hOa wr.heap.size _ _ _ hBa rfl (by omega) hloa ?_; intro g' c' w6 hO6 hg6; have hK6 := HKa.out.grown hg6 (own_other' hOa HKa.out (by decide)); have k61 : w6.cell? ⟨bR, 1, none⟩ = some (.slice S3 m c3) := hK6.cell 1; have f61 := hK6.frozen 1; have b46 := World.grownBy.cell hg6 (cell_keeps kA b4) (HNS.out hOa)))
                have hgb := hO6.block
                have C6 := (hC.step CA.out).step (Chg.ofGrown (lo := lo) (b := bR) hg6 (fun d hd => (own_block hOa d hd).1))
                have C7 := C6.step (Chg.set lo bR 1 w6 (.slice (some ⟨g', 0, none⟩) (m + 1) c'))
                have hK7 : Blk (w6.setCell ⟨bR, 1, none⟩ (.slice (some ⟨g', 0, none⟩) (m + 1) c')) bR 26 #[.slice (some ⟨gi, 0, none⟩) n ci, .slice (some ⟨g', 0, none⟩) (m + 1) c'] := hK6.set 1 _
                have hO7 := hO6.set_other bR 1 (.slice (some ⟨g', 0, none⟩) (m + 1) c') (by omega)
                rw [HRC.out] at hO7
                have CR := Lib.hid (HIH.out (m + 1) _ _ c' (w6.setCell ⟨bR, 1, none⟩ (.slice (some ⟨g', 0, none⟩) (m + 1) c')) hms1 HZN.out (HB1.out.chg C7 G.out.1 G.out.2.1 G.out.2.2.1 G.out.2.2.2.1 G.out.2.2.2.2) (Nat.le_trans hlo1 C7.size) hK7 hO7)
                have HC7 := Lib.hid C7
                rw [HTV.out] at CR
                clear hK7 hO7 C7 C6 hgb hK6 k61 f61 b46 hO6 hg6
                refine CR.out.mono ?_
                intro e w8 hA
                obtain ⟨rfl, S4, c4, hK8, hO8, hC8⟩ := hA
                obtain ⟨g4, rfl⟩ := hO8.at (by omega)
                have k81 : w8.cell? ⟨bR, 1, none⟩ = some (.slice (some ⟨g4, 0, none⟩) (m + 1) c4) := hK8.cell 1
                have f81 := hK8.frozen 1
                have hcap : m + 1 ≤ c4 ∧ c4 ≤ 9223372036854775807 := stops_cap hO8
                have hcap1 : m ≤ c4 := by omega
                have hcapi : (m : Int) ≤ c4 := by omega
                have hgb := hO8.block
                have HK9 : Hid (Blk (w8.setCell ⟨bR, 1, none⟩ (.slice (some ⟨g4, 0, none⟩) m c4)) bR 26 #[.slice (some ⟨gi, 0, none⟩) n ci, .slice (some ⟨g4, 0, none⟩) m c4]) := Lib.hid (hK8.set 1 _)
                have HO9 := Lib.hid ((OwnStops.cut hO8 HLEN.out).set_other bR 1 (.slice (some ⟨g4, 0, none⟩) m c4) (by omega))
                have HC9 := Lib.hid ((HC7.out.step hC8).step (Chg.set lo bR 1 w8 (.slice (some ⟨g4, 0, none⟩) m c4)))
                clear hK8 hO8 hC8 hgb
                cases tv
                · have HV := Lib.hid (HBD.out rfl)
                  go_wp2
                  go_ret
                  rw [← HV.out]
                  exact ⟨rfl, some ⟨g4, 0, none⟩, c4, HK9.out, HO9.out, HC1.out.step HC9.out⟩
                · have HV : Hid (allN (fun h => treeI n s R x f (p + 1) (m + 1) (zs ++ [(p : Int), ((r + 1 : Nat) : Int), (h : Int)])) (h + 1) = true) := Lib.hid (by rw [HNH.out, HAH.out]; rfl)
                  go_wp2
                  go_roundw
                  case rel => exact ⟨h + 1, some ⟨g4, 0, none⟩, c4, by omega, by go_num, HV, HK9, HO9, HC9.out⟩
                  case measure => simp [intOf]; omega
              · obtain rfl : h = P := by omega
                have HV : Hid (allN (fun r => allN (fun h => treeI n s R x f (p + 1) (m + 1) (zs ++ [(p : Int), ((r + 1 : Nat) : Int), (h : Int)])) h) (r + 1) = true) := Lib.hid (by rw [HNX.out, HALL.out, HAH.out]; rfl)
                go_wp2
                go_roundw
                case rel => exact ⟨r + 1, S3, c3, by omega, by go_num, HV, HKr, HOr, hC⟩
                case measure => simp [intOf]; omega
          · obtain rfl : r = 4 := by omega
            have HV : Hid (true = treeI n s R x (f + 1) p m zs) := Lib.hid (by rw [HT2.out, HALL.out])
            go_wp2
            go_ret
            rw [← HV.out]
            exact ⟨rfl, S2, c2, HKr.out, HOr.out, HC1.out.step hC⟩
theorem Chg.own {lo b lo' g n c : Nat} {l : List Int} {w w1 : World} (h : Chg lo b w w1) (o : OwnInts w lo' (some ⟨g, 0, none⟩) n c l) (h1 : g < lo) (h2 : g ≠ b) : OwnInts w1 lo' (some ⟨g, 0, none⟩) n c l := by
  refine ⟨o.1, ?_⟩
  rcases o.2 with ⟨e, _⟩ | ⟨g', cap, cur, e, hb, hg, rest⟩
  · cases e
  · cases e
    exact .inr ⟨g, c, cur, rfl, hb, by rw [h.2.2.2.2 g o.block.2 h1 h2]; exact hg, rest⟩
theorem bits_x (j p : Nat) (hj : j < 9223372036854775808) : bits .and .i64 ((j : Int) / 2 ^ p) 1 = xBits j p := by
  have h := bits_and (j / 2 ^ p) 1 (Nat.lt_of_le_of_lt (Nat.div_le_self _ _) hj) (by omega)
  rw [← shr_bit, show (1 : Int) = ((1 : Nat) : Int) from rfl, h, Nat.and_one_is_mod]
  unfold xBits
  rw [Nat.testBit_eq_decide_div_mod_eq]
  generalize j / 2 ^ p = q
  by_cases e : q % 2 = 1
  · simp [e]
  · simp [show q % 2 = 0 by omega]
theorem enough_not {n s R : Int} (h : inB n 1 3 = false ∨ inB s 0 (n - 1) = false ∨ inB R 0 4 = false) : false = enoughB n s R := by
  unfold enoughB
  rcases h with h | h | h <;> rw [h] <;> simp
theorem enough_yes {n s R : Nat} (h1 : 1 ≤ n) (hn : n ≤ 3) (hs : s + 1 ≤ n) (hR : R ≤ 4) : enoughB n s R = (decide (s < R) || decide (n ≤ R + 1)) := by
  unfold enoughB
  rw [inB_mk (by omega) (by omega), inB_mk (by omega) (by omega), inB_mk (by omega) (by omega)]
  simp only [Bool.true_and]
  congr 1
  · exact decide_eq_decide.2 (by omega)
  · exact decide_eq_decide.2 (by omega)
/-- What AreEnough's loops keep: the boxes, the run with no stops, the inputs y. -/
structure AW (n s R gi lo bn bR br bf bs : Nat) (S : Option Addr) (c : Nat) (y : Nat → Int) (w wr : World) : Prop where
  c1 : wr.cell? ⟨bn, 0, none⟩ = some (.int .i64 n)
  c2 : wr.cell? ⟨br, 0, none⟩ = some (.int .i64 R)
  c3 : wr.cell? ⟨bs, 0, none⟩ = some (.int .i64 s)
  c4 : wr.cell? ⟨bf, 0, none⟩ = some (.func (.func 59) #[] #[.pointer (some ⟨bn, 0, none⟩), .pointer (some ⟨bR, 0, none⟩), .pointer (some ⟨br, 0, none⟩), .pointer (some ⟨bf, 0, none⟩), .pointer (some ⟨bs, 0, none⟩)])
  blk : Blk wr bR 26 #[.slice (some ⟨gi, 0, none⟩) n n, .slice S 0 c]
  st : OwnStops wr lo S 0 c []
  own : OwnInts wr w.heap.size (some ⟨gi, 0, none⟩) n n (il n y)
  sz : lo ≤ wr.heap.size
  kp : Keeps w wr
section
variable {n s R gi lo bn bR br bf bs c : Nat} {S : Option Addr} {y : Nat → Int} {w wr w1 : World}
theorem AW.keeps (h : AW n s R gi lo bn bR br bf bs S c y w wr) (k : Keeps wr w1) : AW n s R gi lo bn bR br bf bs S c y w w1 :=
  ⟨cell_keeps k h.c1, cell_keeps k h.c2, cell_keeps k h.c3, cell_keeps k h.c4, h.blk.keeps k, h.st.keeps k, h.own.keeps k, Nat.le_trans h.sz k.size, h.kp.step k⟩
theorem AW.set (h : AW n s R gi lo bn bR br bf bs S c y w wr) (h1 : bn ≠ gi) (h2 : br ≠ gi) (h3 : bs ≠ gi) (h4 : bf ≠ gi) (h5 : bR ≠ gi) (h6 : gi < lo) (p : Nat) (v : Int) : AW n s R gi lo bn bR br bf bs S c (fun q => if q = p then v else y q) w (wr.setCell ⟨gi, p, none⟩ (.int .i64 v)) := by
  have g := grown_set wr gi p (.int .i64 v)
  refine ⟨World.grownBy.cell g h.c1 (ne_some' h1), World.grownBy.cell g h.c2 (ne_some' h2), World.grownBy.cell g h.c3 (ne_some' h3), World.grownBy.cell g h.c4 (ne_some' h4), h.blk.set_other _ _ h5, own_kept h.st g (fun k hk e => ?_), ?_, Nat.le_trans h.sz g.size, h.kp.setCell (p := ⟨gi, p, none⟩) h.own.block.1 _⟩
  · have := (own_block h.st k hk).1
    have : gi = k := by simpa using e
    omega
  · rw [← il_set]
    exact h.own.set p v
theorem AW.box (h : AW n s R gi lo bn bR br bf bs S c y w wr) {x : Nat → Int} (hx : ∀ q, q < n → y q = x q) : ABox n s R gi bn bR br bf bs x wr :=
  ⟨h.c1, h.c2, h.c3, h.c4, fun i hi => by
    have := h.own.cell i hi
    rw [il_getD _ _ _ hi, hx i hi] at this
    rw [Nat.zero_add]
    exact this⟩
theorem AW.chg (h : AW n s R gi lo bn bR br bf bs S c y w wr) (h1 : bn < lo ∧ bn ≠ bR) (h2 : br < lo ∧ br ≠ bR) (h3 : bs < lo ∧ bs ≠ bR) (h4 : bf < lo ∧ bf ≠ bR) (h5 : gi < lo ∧ gi ≠ bR) (h6 : w.heap.size ≤ bR) (h7 : w.heap.size ≤ lo) (k : Chg lo bR wr w1) {S' : Option Addr} {c' : Nat} (hb : Blk w1 bR 26 #[.slice (some ⟨gi, 0, none⟩) n n, .slice S' 0 c']) (hs : OwnStops w1 lo S' 0 c' []) : AW n s R gi lo bn bR br bf bs S' c' y w w1 :=
  ⟨k.cell h.c1 h1.1 h1.2, k.cell h.c2 h2.1 h2.2, k.cell h.c3 h3.1 h3.2, k.cell h.c4 h4.1 h4.2, hb, hs, k.own h.own h5.1 h5.2, Nat.le_trans h.sz k.size, k.keeps h.kp h7 h6⟩
end
set_option maxRecDepth 100000 in
set_option maxHeartbeats 8000000 in
theorem areEnough_any (n s R : Int) (w : World) :
    Calls Try.prog 25 #[.int .i64 n, .int .i64 s, .int .i64 R] w fun e w' => e = .returned (.bool (enoughB n s R)) ∧ Keeps w w' := by
  have k3 := ((Keeps.alloc w (.cells #[.int .i64 n] 3)).step (Keeps.alloc _ (.cells #[.int .i64 s] 3))).step (Keeps.alloc _ (.cells #[.int .i64 R] 3))
  cases v1 : inB n 1 3
  · have HV := Lib.hid (enough_not (s := s) (R := R) (.inl v1))
    have V1 := Lib.hid v1
    clear v1
    go_enter Try.func25, Try.ntmps25
    go_wp2
    go_step3
    go_wp2_with fail
    refine (within_any _ _ _ _).mono ?_
    rintro e w1 ⟨rfl, rfl⟩
    rw [V1.out]
    go_wp2
    (try rw [Exit.noGoto_ret])
    go_ret
    exact ⟨ret_bool HV.out, k3⟩
  · have hn13 := inB_true v1
    have W0 : IntKind.i64.wrap (n - 1) = n - 1 := by rw [IntKind.wrap_i64]; omega
    cases v2 : inB s 0 (n - 1)
    · have HV := Lib.hid (enough_not (R := R) (.inr (.inl v2)))
      have V1 := Lib.hid v1
      have V2 := Lib.hid v2
      clear v1 v2
      go_enter Try.func25, Try.ntmps25
      go_wp2
      go_step3
      go_wp2_with fail
      refine (within_any _ _ _ _).mono ?_
      rintro e w1 ⟨rfl, rfl⟩
      rw [V1.out]
      go_wp2_with fail
      refine (within_any _ _ _ _).mono ?_
      rintro e w1 ⟨rfl, rfl⟩
      rw [V2.out]
      go_wp2
      (try rw [Exit.noGoto_ret])
      go_ret
      exact ⟨ret_bool HV.out, k3⟩
    · cases v3 : inB R 0 4
      · have HV := Lib.hid (enough_not (n := n) (s := s) (.inr (.inr v3)))
        have V1 := Lib.hid v1
        have V2 := Lib.hid v2
        have V3 := Lib.hid v3
        clear v1 v2 v3
        go_enter Try.func25, Try.ntmps25
        go_wp2
        go_step3
        go_wp2_with fail
        refine (within_any _ _ _ _).mono ?_
        rintro e w1 ⟨rfl, rfl⟩
        rw [V1.out]
        go_wp2_with fail
        refine (within_any _ _ _ _).mono ?_
        rintro e w1 ⟨rfl, rfl⟩
        rw [V2.out]
        go_wp2_with fail
        refine (within_any _ _ _ _).mono ?_
        rintro e w1 ⟨rfl, rfl⟩
        rw [V3.out]
        go_wp2
        (try rw [Exit.noGoto_ret])
        go_ret
        exact ⟨ret_bool HV.out, k3⟩
      · have hs2 := inB_true v2
        have hr2 := inB_true v3
        obtain ⟨n, rfl⟩ := Int.eq_ofNat_of_zero_le (show 0 ≤ n by omega)
        obtain ⟨s, rfl⟩ := Int.eq_ofNat_of_zero_le (show 0 ≤ s by omega)
        obtain ⟨R, rfl⟩ := Int.eq_ofNat_of_zero_le (show 0 ≤ R by omega)
        have HV : Hid (searchI n s R = enoughB n s R) := Lib.hid (by rw [enough_yes (by omega) (by omega) (by omega) (by omega)]; exact (search_eq (by omega) (by omega) (by omega) (by omega)).1)
        have V1 := Lib.hid v1
        have V2 := Lib.hid v2
        have V3 := Lib.hid v3
        have hn3 : n ≤ 3 := by omega
        have h1n : 1 ≤ n := by omega
        have hs3 : s ≤ 3 := by omega
        have hR4 : R ≤ 4 := by omega
        have hmk := make_ints n (by omega)
        have hp8 : 2 ^ n ≤ 8 := Nat.le_trans (Nat.pow_le_pow_right (by omega) hn3) (by omega)
        have HP := Lib.hid (wrapPow n (by omega))
        clear v1 v2 v3
        go_enter Try.func25, Try.ntmps25
        go_wp2
        go_step3
        go_wp2_with fail
        refine (within_any _ _ _ _).mono ?_
        rintro e w1 ⟨rfl, rfl⟩
        rw [V1.out]
        go_wp2_with fail
        refine (within_any _ _ _ _).mono ?_
        rintro e w1 ⟨rfl, rfl⟩
        rw [V2.out]
        go_wp2_with fail
        refine (within_any _ _ _ _).mono ?_
        rintro e w1 ⟨rfl, rfl⟩
        rw [V3.out]
        go_wp2_with fail
        go_step3
        go_wp2_with fail
        rw [HP.out]
        have hAW : AW n s R (w.heap.size + 1 + 1 + 1) (w.heap.size + 1 + 1 + 1 + 1 + 1 + 1) w.heap.size (w.heap.size + 1 + 1 + 1 + 1) (w.heap.size + 1 + 1) (w.heap.size + 1 + 1 + 1 + 1 + 1) (w.heap.size + 1) none 0 (fun _ => 0) w
            ((((((w.alloc (.cells #[.int .i64 n] 3)).alloc (.cells #[.int .i64 s] 3)).alloc (.cells #[.int .i64 R] 3)).alloc (.cells (madeCells #[.int .i64 0] n) 3)).alloc (.cells #[.slice (some ⟨w.heap.size + 1 + 1 + 1, 0, none⟩) n n, .slice none 0 0] 26)).alloc (.cells #[.func (.func 59) #[] #[.pointer (some ⟨w.heap.size, 0, none⟩), .pointer (some ⟨w.heap.size + 1 + 1 + 1 + 1, 0, none⟩), .pointer (some ⟨w.heap.size + 1 + 1, 0, none⟩), .pointer (some ⟨w.heap.size + 1 + 1 + 1 + 1 + 1, 0, none⟩), .pointer (some ⟨w.heap.size + 1, 0, none⟩)]] 61)) := by
          refine ⟨?_, ?_, ?_, ?_, ?_, OwnStops.nil _ _, ?_, by simp, ?_⟩
          · exact ((((((Blk.new w #[.int .i64 n] 3).keeps (Keeps.alloc _ _)).keeps (Keeps.alloc _ _)).keeps (Keeps.alloc _ _)).keeps (Keeps.alloc _ _)).keeps (Keeps.alloc _ _)).cell 0
          · exact ((((blk_at (by simp) (Blk.new ((w.alloc (.cells #[.int .i64 n] 3)).alloc (.cells #[.int .i64 s] 3)) #[.int .i64 R] 3)).keeps (Keeps.alloc _ _)).keeps (Keeps.alloc _ _)).keeps (Keeps.alloc _ _)).cell 0
          · exact (((((blk_at (by simp) (Blk.new (w.alloc (.cells #[.int .i64 n] 3)) #[.int .i64 s] 3)).keeps (Keeps.alloc _ _)).keeps (Keeps.alloc _ _)).keeps (Keeps.alloc _ _)).keeps (Keeps.alloc _ _)).cell 0
          · exact (blk_at (by simp) (Blk.new (((((w.alloc (.cells #[.int .i64 n] 3)).alloc (.cells #[.int .i64 s] 3)).alloc (.cells #[.int .i64 R] 3)).alloc (.cells (madeCells #[.int .i64 0] n) 3)).alloc (.cells #[.slice (some ⟨w.heap.size + 1 + 1 + 1, 0, none⟩) n n, .slice none 0 0] 26)) _ 61)).cell 0
          · exact (blk_at (by simp) (Blk.new ((((w.alloc (.cells #[.int .i64 n] 3)).alloc (.cells #[.int .i64 s] 3)).alloc (.cells #[.int .i64 R] 3)).alloc (.cells (madeCells #[.int .i64 0] n) 3)) _ 26)).keeps (Keeps.alloc _ _)
          · rw [← il_zero]
            exact ((own_at (by simp) (OwnInts.make (((w.alloc (.cells #[.int .i64 n] 3)).alloc (.cells #[.int .i64 s] 3)).alloc (.cells #[.int .i64 R] 3)) w.heap.size n (by simp; omega) (by omega))).keeps (Keeps.alloc _ _)).keeps (Keeps.alloc _ _)
          · exact ((k3.step (Keeps.alloc _ _)).step (Keeps.alloc _ _)).step (Keeps.alloc _ _)
        have HAW := Lib.hid hAW
        clear hAW k3 hmk
        have hR0 := RunZ.nil n
        generalize hP : 2 ^ n = P at *
        have HPE := Lib.hid hP
        have HSE : Hid (searchI n s R = allN (fun j => treeI n s R (xBits j) n 0 0 []) P) := Lib.hid (by rw [← hP]; rfl)
        clear hP hR0
        go_loopw [32] (fun i wr => ∃ (j : Nat) (y : Nat → Int) (S : Option Addr) (c : Nat), j ≤ P ∧ i = .int .i64 j ∧ Hid (allN (fun j => treeI n s R (xBits j) n 0 0 []) j = true) ∧ Hid (AW n s R (w.heap.size + 1 + 1 + 1) (w.heap.size + 1 + 1 + 1 + 1 + 1 + 1) w.heap.size (w.heap.size + 1 + 1 + 1 + 1) (w.heap.size + 1 + 1) (w.heap.size + 1 + 1 + 1 + 1 + 1) (w.heap.size + 1) S c y w wr)) (fun i _ => P - (intOf i).toNat)
        case atStart => exact ⟨0, _, none, 0, by omega, rfl, Lib.hid rfl, HAW⟩
        case round =>
          obtain ⟨j, y, S, c, hj, rfl, HALL, HA⟩ := hrel
          by_cases hlt : j < P
          · have hji : (j : Int) < P := by omega
            have HNX := Lib.hid (show allN (fun j => treeI n s R (xBits j) n 0 0 []) (j + 1) = (allN (fun j => treeI n s R (xBits j) n 0 0 []) j && treeI n s R (xBits j) n 0 0 []) from rfl)
            have HBAD : Hid (treeI n s R (xBits j) n 0 0 [] = false → false = enoughB n s R) := Lib.hid (fun e => by rw [← HV.out, HSE.out]; exact (allN_false _ P j hlt e).symm)
            have b1 := HA.out.c1
            go_wp2_with fail
            go_loopw [36] (fun i wi => ∃ (p : Nat), p ≤ n ∧ i = .int .i64 p ∧ Hid (AW n s R (w.heap.size + 1 + 1 + 1) (w.heap.size + 1 + 1 + 1 + 1 + 1 + 1) w.heap.size (w.heap.size + 1 + 1 + 1 + 1) (w.heap.size + 1 + 1) (w.heap.size + 1 + 1 + 1 + 1 + 1) (w.heap.size + 1) S c (fun q => if q < p then xBits j q else y q) w wi)) (fun i _ => n - (intOf i).toNat)
            case atStart => exact ⟨0, by omega, rfl, by simpa using HA⟩
            case round =>
              clear b1 HA
              obtain ⟨p, hp, rfl, HA⟩ := hrel
              by_cases hltp : p < n
              · have hpi : (p : Int) < n := by omega
                have d0 : wr.cell? ⟨w.heap.size + 1 + 1 + 1 + 1, 0, none⟩ = some (.slice (some ⟨w.heap.size + 1 + 1 + 1, 0, none⟩) n n) := HA.out.blk.cell 0
                have hc := HA.out.own.cell p hltp
                rw [il_getD _ _ _ hltp, if_neg (by omega)] at hc
                have hfz := HA.out.own.frozen p
                have HX := Lib.hid (bits_x j p (by omega))
                have HSET : Hid (AW n s R (w.heap.size + 1 + 1 + 1) (w.heap.size + 1 + 1 + 1 + 1 + 1 + 1) w.heap.size (w.heap.size + 1 + 1 + 1 + 1) (w.heap.size + 1 + 1) (w.heap.size + 1 + 1 + 1 + 1 + 1) (w.heap.size + 1) S c (fun q => if q < p + 1 then xBits j q else y q) w (wr.setCell ⟨w.heap.size + 1 + 1 + 1, p, none⟩ (.int .i64 (xBits j p)))) := Lib.hid (by
                  have h := HA.out.set (by omega) (by omega) (by omega) (by omega) (by omega) (by omega) p (xBits j p)
                  have e : (fun q => if q = p then xBits j p else if q < p then xBits j q else y q) = fun q => if q < p + 1 then xBits j q else y q := funext fun q => by
                    by_cases e1 : q = p
                    · subst e1; simp
                    · by_cases e2 : q < p
                      · rw [if_neg e1, if_pos e2, if_pos (by omega)]
                      · rw [if_neg e1, if_neg e2, if_neg (by omega)]
                  rwa [e] at h)
                generalize y p = yp at *
                go_wp2_with fail
                go_region
                all_goals
                  rw [HX.out]
                  go_wp2
                  go_roundw
                  case rel => exact ⟨p + 1, by omega, by go_num, Lib.hid (HSET.out.keeps (Keeps.drew1 _))⟩
                  case measure => simp [intOf]; omega
              · obtain rfl : p = n := by omega
                have b4 := HA.out.c4
                have CR := Lib.hid (arec_any p s R p (w.heap.size + 1 + 1 + 1) (w.heap.size + 1 + 1 + 1 + 1 + 1 + 1) w.heap.size (w.heap.size + 1 + 1 + 1 + 1) (w.heap.size + 1 + 1) (w.heap.size + 1 + 1 + 1 + 1 + 1) (w.heap.size + 1) (xBits j) hn3 hs3 hR4 (by omega) (by omega) (by omega) (by omega) (by omega) (by omega) p 0 0 [] S c wr (by omega) (by omega) (RunZ.nil p _ h1n (by omega) (fun i _ => xBits_in j i)) (HA.out.box (fun q hq => if_pos hq)) HA.out.sz HA.out.blk HA.out.st)
                have hf : ∀ (args : Array Value) (w : World), (callFunc 59 args).run Try.prog w = .ok (.enter 59 args) w := fun _ _ => rfl
                go_wp2_with fail
                refine CR.out.mono ?_
                intro e w2 hA
                obtain ⟨rfl, S2, c2, hK2, hO2, hC2⟩ := hA
                have HA2 := Lib.hid (HA.out.chg (by omega) (by omega) (by omega) (by omega) (by omega) (by omega) (by omega) hC2 hK2 hO2)
                clear hK2 hO2 hC2 b4
                cases e1 : treeI p s R (xBits j) p 0 0 []
                · have HV2 := Lib.hid (HBAD.out e1)
                  clear e1
                  go_wp2
                  (try rw [Exit.noGoto_ret])
                  go_ret
                  exact ⟨ret_bool HV2.out, HA2.out.kp⟩
                · have HV2 : Hid (allN (fun j => treeI p s R (xBits j) p 0 0 []) (j + 1) = true) := Lib.hid (by rw [HNX.out, HALL.out, e1]; rfl)
                  clear e1
                  go_wp2
                  go_roundw
                  case rel => exact ⟨j + 1, _, S2, c2, by omega, by go_num, HV2, HA2⟩
                  case measure => simp [intOf]; omega
          · obtain rfl : j = P := by omega
            have HV2 : Hid (true = enoughB n s R) := Lib.hid (by rw [← HV.out, HSE.out, HALL.out])
            go_wp2
            (try rw [Exit.noGoto_ret])
            go_ret
            exact ⟨ret_bool HV2.out, HA.out.kp⟩
end Go.Proofs.Ytepgogaoppdllaa
