/-
  The program's rulesOf: of whatever meeting, if what two kinds become is in tables. Condition: at most four kinds.
-/
import Derived.Test.YtlniogfinofakaaGreatDoorRuBh
import Derived.Test.YtlniogfinofakaaGreatDoorRuAd
import Derived.Deep.RegionLaw
import Derived.Laws.EntriesVeiled
import Derived.Deep.QuietTactic
import Derived.BigQuiet
import Derived.Test.YtlniogfinofakaaGreatDoorRuAy
import Derived.LaidEql
namespace Go.Proofs.YtlniogfinofakaaGreatDoor
set_option maxRecDepth 100000
set_option linter.unusedVariables false
set_option maxRecDepth 100000
open Go.RowKit

theorem assertT_yes (v : Value) (w : World) : (Instr.typeAssert (.iface 160 v) 135 160 true).run Tryz.prog w = .ok (.tuple #[v, .bool true]) w := by kernel_rfl
theorem assertT_no (v : Value) (w : World) : (Instr.typeAssert (.iface 158 v) 135 160 true).run Tryz.prog w = .ok (.tuple #[.agg #[.slice none 0 0, .nilFunc], .bool false]) w := by kernel_rfl
theorem assertA_yes (v : Value) (w : World) : (Instr.typeAssert (.iface 158 v) 135 158 true).run Tryz.prog w = .ok (.tuple #[v, .bool true]) w := by kernel_rfl
/-- Rules as they are handed back. -/
def RulesMade (w : World) (S : Option Addr) (n c : Nat) (F G : Nat → Nat → Int) (e : Ending) (w' : World) : Prop :=
  ∃ (A B : Option Addr) (R1 R2 : List Hdr), e = .returned (.agg #[.slice S n c, .slice A n n, .slice B n n]) ∧ R1.map (·.l) = tabK n F n ∧ R2.map (·.l) = tabK n G n ∧ Crn w' w.heap.size A n R1 ∧ Crn w' w.heap.size B n R2 ∧ Keeps w w'
set_option maxHeartbeats 8000000 in
theorem rulesT_any (f : Nat) (S : Option Addr) (n c : Nat) (F G : Nat → Nat → Int) (w : World) (hn1 : 1 ≤ n) (hn4 : n ≤ 4) (hf : ∀ (args : Array Value) (w : World), (callFunc f args).run Tryz.prog w = .ok (.enter f args) w) (hcl : ∀ (a b : Nat) (W : World), a < n → b < n → Calls Tryz.prog f #[.int .i64 a, .int .i64 b] W fun e w' => e = .returned (.tuple #[.int .i64 (F a b), .int .i64 (G a b)]) ∧ Keeps W w') :
    Calls Tryz.prog 99 #[.iface 160 (.agg #[.slice S n c, .func (.func f) #[] #[]])] w (RulesMade w S n c F G) := by
  have HCL := Lib.hid hcl
  clear hcl
  have HRB := Lib.hid ((Blk.new w #[.slice none 0 0, .slice none 0 0, .slice none 0 0] 54).keeps (Keeps.alloc _ (.cells #[.slice S n c, .func (.func f) #[] #[]] 160)))
  have HXB := Lib.hid (Blk.new (w.alloc (.cells #[.slice none 0 0, .slice none 0 0, .slice none 0 0] 54)) #[.slice S n c, .func (.func f) #[] #[]] 160)
  rw [World.size_alloc] at HXB
  have HK0 := Lib.hid ((Keeps.alloc w (.cells #[.slice none 0 0, .slice none 0 0, .slice none 0 0] 54)).step (Keeps.alloc _ (.cells #[.slice S n c, .func (.func f) #[] #[]] 160)))
  have HZ0 : Hid (((w.alloc (.cells #[.slice none 0 0, .slice none 0 0, .slice none 0 0] 54)).alloc (.cells #[.slice S n c, .func (.func f) #[] #[]] 160)).heap.size = w.heap.size + 2) := Lib.hid (by simp)
  have as1 := assertT_yes
  have as2 := assertT_no
  have as3 := assertA_yes
  go_enter Tryz.func99, Tryz.ntmps99
  go_upto_region 6 with fail
  generalize (w.alloc (.cells #[.slice none 0 0, .slice none 0 0, .slice none 0 0] 54)).alloc (.cells #[.slice S n c, .func (.func f) #[] #[]] 160) = w1 at *
  have d0 : w1.cell? ⟨w.heap.size + 1, 0, none⟩ = some (.slice S n c) := HXB.out.cell 0
  have d1 : w1.cell? ⟨w.heap.size + 1, 1, none⟩ = some (.func (.func f) #[] #[]) := HXB.out.cell 1
  go_quiet (fail)
  clear d0 d1
  replace HRB := Lib.hid (HRB.out.keeps (Keeps.drewN w1 nq))
  replace HXB := Lib.hid (HXB.out.keeps (Keeps.drewN w1 nq))
  replace HK0 := Lib.hid (HK0.out.step (Keeps.drewN w1 nq))
  replace HZ0 : Hid ((w1.drewN nq).heap.size = w.heap.size + 2) := Lib.hid (by have := HZ0.out; simpa using this)
  generalize w1.drewN nq = w2 at *
  have HM : Hid (MSt 0 0 w2 none 0 [] none 0 [] #[.slice S n c, .slice none 0 0, .slice none 0 0] (w2.alloc (.cells #[.slice S n c, .slice none 0 0, .slice none 0 0] 54))) := Lib.hid ⟨Blk.new w2 _ _, ⟨World.ownsRow_nil _ _ _ 1, fun h hh => by simp at hh⟩, ⟨World.ownsRow_nil _ _ _ 1, fun h hh => by simp at hh⟩, fun d e => (by cases e), Keeps.alloc _ _⟩
  go_wp2_with fail
  generalize w2.alloc (.cells #[.slice S n c, .slice none 0 0, .slice none 0 0] 54) = w3 at *
  go_loopw [30] (fun i wr => ∃ (k : Nat) (A : Option Addr) (cA : Nat) (R1 : List Hdr) (B : Option Addr) (cB : Nat) (R2 : List Hdr), k ≤ n ∧ i = .int .i64 k ∧ Hid (R1.map (·.l) = tabK n F k ∧ R2.map (·.l) = tabK n G k) ∧ Hid (MSt k k w2 A cA R1 B cB R2 #[.slice S n c, .slice A k cA, .slice B k cB] wr)) (fun i _ => n - (intOf i).toNat)
  case atStart => exact ⟨0, none, 0, [], none, 0, [], by omega, rfl, Lib.hid ⟨rfl, rfl⟩, HM⟩
  case round =>
    clear HM
    obtain ⟨k, A, cA, R1, B, cB, R2, hk, rfl, HT, HM⟩ := hrel
    by_cases hlt : k < n
    · have hki : (k : Int) < n := by omega
      have hmk := make_ints n (by omega)
      have HLO : Hid (w2.heap.size < wr.heap.size ∧ (∀ d, A.map (·.block) = some d → d < wr.heap.size) ∧ (∀ d, B.map (·.block) = some d → d < wr.heap.size) ∧ ∀ h ∈ R1 ++ R2, h.g < wr.heap.size) := Lib.hid (by
        obtain ⟨h1, h2, h3, h4⟩ := HM.out.lows
        exact ⟨h4, fun d e => (h1 d e).2, fun d e => (h2 d e).2, fun z hz => (h3 z hz).2⟩)
      go_upto_region 14 with fail
      go_region_law (fail)
      · obtain ⟨L, hL⟩ : ∃ L, L = wr.heap.size := ⟨_, rfl⟩
        rw [← hL] at HLO
        (try simp only [Act.put, List.getElem_toArray, List.getElem_cons_succ, List.getElem_cons_zero, List.setIfInBounds_toArray, List.set_cons_succ, List.set_cons_zero])
        have HXY : Hid (MSt k k w2 A cA R1 B cB R2 #[.slice S n c, .slice A k cA, .slice B k cB] ((wr.alloc (.cells (madeCells #[.int .i64 0] n) 3)).alloc (.cells (madeCells #[.int .i64 0] n) 3)).drew ∧ OwnInts ((wr.alloc (.cells (madeCells #[.int .i64 0] n) 3)).alloc (.cells (madeCells #[.int .i64 0] n) 3)).drew L (some ⟨wr.heap.size, 0, none⟩) n n (il n (fun _ => 0)) ∧ OwnInts ((wr.alloc (.cells (madeCells #[.int .i64 0] n) 3)).alloc (.cells (madeCells #[.int .i64 0] n) 3)).drew L (some ⟨wr.heap.size + 1, 0, none⟩) n n (il n (fun _ => 0))) := Lib.hid (by
          have h1 := OwnInts.make wr L n (by omega) (by omega)
          have h2 := OwnInts.make (wr.alloc (.cells (madeCells #[.int .i64 0] n) 3)) L n (by simp; omega) (by omega)
          rw [World.size_alloc] at h2
          rw [il_zero] at h1 h2
          exact ⟨((HM.out.step (Keeps.alloc _ _)).step (Keeps.alloc _ _)).step (Keeps.drew1 _), (h1.keeps (Keeps.alloc _ _)).keeps (Keeps.drew1 _), h2.keeps (Keeps.drew1 _)⟩)
        as_aux_lemma =>
          clear HM hmk
          generalize ((wr.alloc (.cells (madeCells #[.int .i64 0] n) 3)).alloc (.cells (madeCells #[.int .i64 0] n) 3)).drew = w4 at *
          generalize hgb : wr.heap.size + 1 = g2 at *
          generalize hga : wr.heap.size = g1 at *
          have hg12 : g1 ≠ g2 := by omega
          have hg21 : g2 ≠ g1 := fun e => hg12 e.symm
          clear hL hga hgb
          go_wp2_with fail
          go_loopw [41] (fun j wi => ∃ (b : Nat), b ≤ n ∧ j = .int .i64 b ∧ Hid (MSt k k w2 A cA R1 B cB R2 #[.slice S n c, .slice A k cA, .slice B k cB] wi ∧ OwnInts wi L (some ⟨g1, 0, none⟩) n n (il n (fun j => if j < b then F k j else 0)) ∧ OwnInts wi L (some ⟨g2, 0, none⟩) n n (il n (fun j => if j < b then G k j else 0)))) (fun j _ => n - (intOf j).toNat)
          case atStart =>
            have h0 : (fun j : Nat => if j < 0 then F k j else (0 : Int)) = fun _ => 0 := by funext j; simp
            have h1 : (fun j : Nat => if j < 0 then G k j else (0 : Int)) = fun _ => 0 := by funext j; simp
            exact ⟨0, by omega, rfl, Lib.hid (by rw [h0, h1]; exact HXY.out)⟩
          case round =>
            clear HXY
            obtain ⟨b, hb, rfl, HIN⟩ := hrel
            by_cases hltb : b < n
            · have hbi : (b : Int) < n := by omega
              go_wp2_with fail
              refine (HCL.out k b _ hlt hltb).mono ?_
              rintro e w5 ⟨rfl, hk5⟩
              have HM5 := Lib.hid (HIN.out.1.step hk5)
              have HX5 := Lib.hid (HIN.out.2.1.keeps hk5)
              have HY5 := Lib.hid (HIN.out.2.2.keeps hk5)
              have cx := HX5.out.cell b hltb
              have fx := HX5.out.frozen b
              have cy := HY5.out.cell b hltb
              have fy := HY5.out.frozen b
              clear HIN hk5
              generalize (il n (fun j => if j < b then F k j else 0)).getD b 0 = zx at cx
              generalize (il n (fun j => if j < b then G k j else 0)).getD b 0 = zy at cy
              go_upto_region 19 with fail
              have HXY : Hid (MSt k k w2 A cA R1 B cB R2 #[.slice S n c, .slice A k cA, .slice B k cB] ((w5.setCell ⟨g1, b, none⟩ (.int .i64 (F k b))).setCell ⟨g2, b, none⟩ (.int .i64 (G k b))) ∧ OwnInts ((w5.setCell ⟨g1, b, none⟩ (.int .i64 (F k b))).setCell ⟨g2, b, none⟩ (.int .i64 (G k b))) L (some ⟨g1, 0, none⟩) n n (il n (fun j => if j < b + 1 then F k j else 0)) ∧ OwnInts ((w5.setCell ⟨g1, b, none⟩ (.int .i64 (F k b))).setCell ⟨g2, b, none⟩ (.int .i64 (G k b))) L (some ⟨g2, 0, none⟩) n n (il n (fun j => if j < b + 1 then G k j else 0))) := Lib.hid (by
                have e1 : ∀ H : Nat → Nat → Int, (il n (fun j => if j < b then H k j else 0)).set b (H k b) = il n (fun j => if j < b + 1 then H k j else 0) := fun H => by
                  rw [il_set]
                  refine il_congr n _ _ (fun i hi => ?_)
                  by_cases e : i = b
                  · subst e; simp
                  · rw [if_neg e]
                    by_cases e2 : i < b
                    · rw [if_pos e2, if_pos (by omega)]
                    · rw [if_neg e2, if_neg (by omega)]
                have h1 := HX5.out.set b (F k b)
                have h2 := (HY5.out.set_other g1 b (.int .i64 (F k b)) hg12).set b (G k b)
                rw [e1] at h1 h2
                exact ⟨(HM5.out.above HLO.out.1 HLO.out.2 (grown_set _ _ _ _) HX5.out.block.1).above HLO.out.1 HLO.out.2 (grown_set _ _ _ _) HY5.out.block.1, h1.set_other g2 b _ hg21, h2⟩)
              clear HM5 HX5 HY5 cx fx cy fy
              generalize (w5.setCell ⟨g1, b, none⟩ (.int .i64 (F k b))).setCell ⟨g2, b, none⟩ (.int .i64 (G k b)) = w6 at *
              go_wp2_with fail
              go_roundw
              case rel => exact ⟨b + 1, by omega, by go_num, HXY⟩
              case measure => simp [intOf]; omega
            · obtain rfl : b = n := by omega
              have HM6 := Lib.hid HIN.out.1
              have HX6 : Hid (OwnInts wr L (some ⟨g1, 0, none⟩) b b (il b (F k))) := Lib.hid (by
                have h := HIN.out.2.1
                rw [il_congr b _ (F k) (fun i hi => by rw [if_pos hi])] at h
                exact h)
              have HY6 : Hid (OwnInts wr L (some ⟨g2, 0, none⟩) b b (il b (G k))) := Lib.hid (by
                have h := HIN.out.2.2
                rw [il_congr b _ (G k) (fun i hi => by rw [if_pos hi])] at h
                exact h)
              have hwL := HLO.out.1
              have d1 : wr.cell? ⟨w2.heap.size, 1, none⟩ = some (.slice A k cA) := HM6.out.box.cell 1
              have hVlt := HM6.out.box.lt
              have HLX : Hid ((il b (F k)).length = b) := Lib.hid (il_len _ _)
              have HLY : Hid ((il b (G k)).length = b) := Lib.hid (il_len _ _)
              have hsz := HM6.out.keeps.size
              clear HIN
              as_aux_lemma =>
                go_upto_region 21 with (first | (at_builtin; go_loud (refine wp_crdH rfl _ _ rfl w2.heap.size A k cA R1 _ rfl (HM6.out.first.keeps (Keeps.alloc _ _)) wr.heap.size ⟨g1, b, b, il b (F k)⟩ (by rw [(Blk.new wr #[.slice (some ⟨g1, 0, none⟩) b b] 45).cell 0]; unfold Hdr.v; rw [HLX.out]; rfl) (by rw [HLX.out]; exact (HX6.out.mono (Nat.le_of_lt hwL)).keeps (Keeps.alloc _ _)) rfl (by omega) (by have := (Keeps.alloc wr (.cells #[.slice (some ⟨g1, 0, none⟩) b b] 45)).size; omega) ?_; intro g15 c15 w15 hC15 hg15 hor15; have hM15 := (HM6.out.step (Keeps.alloc wr (.cells #[.slice (some ⟨g1, 0, none⟩) b b] 45))).row1 hC15 hg15 (by rcases hor15 with e | e; exact .inl e; exact .inr (by omega)); have hY15 : OwnInts w15 L (some ⟨g2, 0, none⟩) b b (il b (G k)) := own_kept (HY6.out.keeps (Keeps.alloc wr (.cells #[.slice (some ⟨g1, 0, none⟩) b b] 45))) hg15 (fun d hd e => own_type HY6.out HM6.out.first.top (by decide) d hd e); have e15 : w15.cell? ⟨w2.heap.size, 1, none⟩ = some (.slice A k cA) := hM15.box.cell 1; have f15 := hM15.box.frozen 1)))
                have HM16 : Hid (MSt (k + 1) k w2 (some ⟨g15, 0, none⟩) c15 (R1 ++ [⟨g1, b, b, il b (F k)⟩]) B cB R2 #[.slice S b c, .slice (some ⟨g15, 0, none⟩) (k + 1) c15, .slice B k cB] (w15.setCell ⟨w2.heap.size, 1, none⟩ (.slice (some ⟨g15, 0, none⟩) (k + 1) c15))) := Lib.hid (hM15.store 1 _)
                have HY16 : Hid (OwnInts (w15.setCell ⟨w2.heap.size, 1, none⟩ (.slice (some ⟨g15, 0, none⟩) (k + 1) c15)) L (some ⟨g2, 0, none⟩) b b (il b (G k))) := Lib.hid (hY15.grown (grown_set _ _ _ _) hM15.box (by decide))
                clear hC15 hg15 hor15 hM15 hY15 e15 f15 d1 HM6 HX6 HY6 hVlt hsz
                generalize w15.setCell ⟨w2.heap.size, 1, none⟩ (.slice (some ⟨g15, 0, none⟩) (k + 1) c15) = w16 at *
                have d2 : w16.cell? ⟨w2.heap.size, 2, none⟩ = some (.slice B k cB) := HM16.out.box.cell 2
                have hVlt := HM16.out.box.lt
                have hsz := HM16.out.keeps.size
                go_upto_region 22 with (first | (at_builtin; go_loud (refine wp_crdH rfl _ _ rfl w2.heap.size B k cB R2 _ rfl (HM16.out.second.keeps (Keeps.alloc _ _)) w16.heap.size ⟨g2, b, b, il b (G k)⟩ (by rw [(Blk.new w16 #[.slice (some ⟨g2, 0, none⟩) b b] 45).cell 0]; unfold Hdr.v; rw [HLY.out]; rfl) (by rw [HLY.out]; exact (HY16.out.mono (Nat.le_of_lt hwL)).keeps (Keeps.alloc _ _)) rfl (by omega) (by have := (Keeps.alloc w16 (.cells #[.slice (some ⟨g2, 0, none⟩) b b] 45)).size; omega) ?_; intro g17 c17 w17 hC17 hg17 hor17; have hM17 := (HM16.out.step (Keeps.alloc w16 (.cells #[.slice (some ⟨g2, 0, none⟩) b b] 45))).row2 hC17 hg17 (by rcases hor17 with e | e; exact .inl e; exact .inr (by omega)); have e17 : w17.cell? ⟨w2.heap.size, 2, none⟩ = some (.slice B k cB) := hM17.box.cell 2; have f17 := hM17.box.frozen 2)))
                have HM18 : Hid (MSt (k + 1) (k + 1) w2 (some ⟨g15, 0, none⟩) c15 (R1 ++ [⟨g1, b, b, il b (F k)⟩]) (some ⟨g17, 0, none⟩) c17 (R2 ++ [⟨g2, b, b, il b (G k)⟩]) #[.slice S b c, .slice (some ⟨g15, 0, none⟩) (k + 1) c15, .slice (some ⟨g17, 0, none⟩) (k + 1) c17] (w17.setCell ⟨w2.heap.size, 2, none⟩ (.slice (some ⟨g17, 0, none⟩) (k + 1) c17))) := Lib.hid (hM17.store 2 _)
                have HT2 : Hid ((R1 ++ [(⟨g1, b, b, il b (F k)⟩ : Hdr)]).map (·.l) = tabK b F (k + 1) ∧ (R2 ++ [(⟨g2, b, b, il b (G k)⟩ : Hdr)]).map (·.l) = tabK b G (k + 1)) := Lib.hid ⟨by rw [List.map_append, HT.out.1, tabK_succ]; rfl, by rw [List.map_append, HT.out.2, tabK_succ]; rfl⟩
                clear hC17 hg17 hor17 hM17 e17 f17 d2 HM16 HY16 hVlt hsz
                generalize w17.setCell ⟨w2.heap.size, 2, none⟩ (.slice (some ⟨g17, 0, none⟩) (k + 1) c17) = w18 at *
                go_wp2_with fail
                go_roundw
                case rel => exact ⟨k + 1, _, _, _, _, _, _, by omega, by go_num, HT2, HM18⟩
                case measure => simp [intOf]; omega
      · obtain ⟨L, hL⟩ : ∃ L, L = wr.heap.size := ⟨_, rfl⟩
        rw [← hL] at HLO
        (try simp only [Act.put, List.getElem_toArray, List.getElem_cons_succ, List.getElem_cons_zero, List.setIfInBounds_toArray, List.set_cons_succ, List.set_cons_zero])
        have HXY : Hid (MSt k k w2 A cA R1 B cB R2 #[.slice S n c, .slice A k cA, .slice B k cB] ((wr.alloc (.cells (madeCells #[.int .i64 0] n) 3)).alloc (.cells (madeCells #[.int .i64 0] n) 3)).drew ∧ OwnInts ((wr.alloc (.cells (madeCells #[.int .i64 0] n) 3)).alloc (.cells (madeCells #[.int .i64 0] n) 3)).drew L (some ⟨wr.heap.size, 0, none⟩) n n (il n (fun _ => 0)) ∧ OwnInts ((wr.alloc (.cells (madeCells #[.int .i64 0] n) 3)).alloc (.cells (madeCells #[.int .i64 0] n) 3)).drew L (some ⟨wr.heap.size + 1, 0, none⟩) n n (il n (fun _ => 0))) := Lib.hid (by
          have h1 := OwnInts.make wr L n (by omega) (by omega)
          have h2 := OwnInts.make (wr.alloc (.cells (madeCells #[.int .i64 0] n) 3)) L n (by simp; omega) (by omega)
          rw [World.size_alloc] at h2
          rw [il_zero] at h1 h2
          exact ⟨((HM.out.step (Keeps.alloc _ _)).step (Keeps.alloc _ _)).step (Keeps.drew1 _), (h1.keeps (Keeps.alloc _ _)).keeps (Keeps.drew1 _), h2.keeps (Keeps.drew1 _)⟩)
        as_aux_lemma =>
          clear HM hmk
          generalize ((wr.alloc (.cells (madeCells #[.int .i64 0] n) 3)).alloc (.cells (madeCells #[.int .i64 0] n) 3)).drew = w4 at *
          generalize hgb : wr.heap.size + 1 = g1 at *
          generalize hga : wr.heap.size = g2 at *
          have hg12 : g1 ≠ g2 := by omega
          have hg21 : g2 ≠ g1 := fun e => hg12 e.symm
          clear hL hga hgb
          go_wp2_with fail
          go_loopw [41] (fun j wi => ∃ (b : Nat), b ≤ n ∧ j = .int .i64 b ∧ Hid (MSt k k w2 A cA R1 B cB R2 #[.slice S n c, .slice A k cA, .slice B k cB] wi ∧ OwnInts wi L (some ⟨g1, 0, none⟩) n n (il n (fun j => if j < b then F k j else 0)) ∧ OwnInts wi L (some ⟨g2, 0, none⟩) n n (il n (fun j => if j < b then G k j else 0)))) (fun j _ => n - (intOf j).toNat)
          case atStart =>
            have h0 : (fun j : Nat => if j < 0 then F k j else (0 : Int)) = fun _ => 0 := by funext j; simp
            have h1 : (fun j : Nat => if j < 0 then G k j else (0 : Int)) = fun _ => 0 := by funext j; simp
            exact ⟨0, by omega, rfl, Lib.hid (by rw [h0, h1]; exact ⟨HXY.out.1, HXY.out.2.2, HXY.out.2.1⟩)⟩
          case round =>
            clear HXY
            obtain ⟨b, hb, rfl, HIN⟩ := hrel
            by_cases hltb : b < n
            · have hbi : (b : Int) < n := by omega
              go_wp2_with fail
              refine (HCL.out k b _ hlt hltb).mono ?_
              rintro e w5 ⟨rfl, hk5⟩
              have HM5 := Lib.hid (HIN.out.1.step hk5)
              have HX5 := Lib.hid (HIN.out.2.1.keeps hk5)
              have HY5 := Lib.hid (HIN.out.2.2.keeps hk5)
              have cx := HX5.out.cell b hltb
              have fx := HX5.out.frozen b
              have cy := HY5.out.cell b hltb
              have fy := HY5.out.frozen b
              clear HIN hk5
              generalize (il n (fun j => if j < b then F k j else 0)).getD b 0 = zx at cx
              generalize (il n (fun j => if j < b then G k j else 0)).getD b 0 = zy at cy
              go_upto_region 19 with fail
              have HXY : Hid (MSt k k w2 A cA R1 B cB R2 #[.slice S n c, .slice A k cA, .slice B k cB] ((w5.setCell ⟨g1, b, none⟩ (.int .i64 (F k b))).setCell ⟨g2, b, none⟩ (.int .i64 (G k b))) ∧ OwnInts ((w5.setCell ⟨g1, b, none⟩ (.int .i64 (F k b))).setCell ⟨g2, b, none⟩ (.int .i64 (G k b))) L (some ⟨g1, 0, none⟩) n n (il n (fun j => if j < b + 1 then F k j else 0)) ∧ OwnInts ((w5.setCell ⟨g1, b, none⟩ (.int .i64 (F k b))).setCell ⟨g2, b, none⟩ (.int .i64 (G k b))) L (some ⟨g2, 0, none⟩) n n (il n (fun j => if j < b + 1 then G k j else 0))) := Lib.hid (by
                have e1 : ∀ H : Nat → Nat → Int, (il n (fun j => if j < b then H k j else 0)).set b (H k b) = il n (fun j => if j < b + 1 then H k j else 0) := fun H => by
                  rw [il_set]
                  refine il_congr n _ _ (fun i hi => ?_)
                  by_cases e : i = b
                  · subst e; simp
                  · rw [if_neg e]
                    by_cases e2 : i < b
                    · rw [if_pos e2, if_pos (by omega)]
                    · rw [if_neg e2, if_neg (by omega)]
                have h1 := HX5.out.set b (F k b)
                have h2 := (HY5.out.set_other g1 b (.int .i64 (F k b)) hg12).set b (G k b)
                rw [e1] at h1 h2
                exact ⟨(HM5.out.above HLO.out.1 HLO.out.2 (grown_set _ _ _ _) HX5.out.block.1).above HLO.out.1 HLO.out.2 (grown_set _ _ _ _) HY5.out.block.1, h1.set_other g2 b _ hg21, h2⟩)
              clear HM5 HX5 HY5 cx fx cy fy
              generalize (w5.setCell ⟨g1, b, none⟩ (.int .i64 (F k b))).setCell ⟨g2, b, none⟩ (.int .i64 (G k b)) = w6 at *
              go_wp2_with fail
              go_roundw
              case rel => exact ⟨b + 1, by omega, by go_num, HXY⟩
              case measure => simp [intOf]; omega
            · obtain rfl : b = n := by omega
              have HM6 := Lib.hid HIN.out.1
              have HX6 : Hid (OwnInts wr L (some ⟨g1, 0, none⟩) b b (il b (F k))) := Lib.hid (by
                have h := HIN.out.2.1
                rw [il_congr b _ (F k) (fun i hi => by rw [if_pos hi])] at h
                exact h)
              have HY6 : Hid (OwnInts wr L (some ⟨g2, 0, none⟩) b b (il b (G k))) := Lib.hid (by
                have h := HIN.out.2.2
                rw [il_congr b _ (G k) (fun i hi => by rw [if_pos hi])] at h
                exact h)
              have hwL := HLO.out.1
              have d1 : wr.cell? ⟨w2.heap.size, 1, none⟩ = some (.slice A k cA) := HM6.out.box.cell 1
              have hVlt := HM6.out.box.lt
              have HLX : Hid ((il b (F k)).length = b) := Lib.hid (il_len _ _)
              have HLY : Hid ((il b (G k)).length = b) := Lib.hid (il_len _ _)
              have hsz := HM6.out.keeps.size
              clear HIN
              as_aux_lemma =>
                go_upto_region 21 with (first | (at_builtin; go_loud (refine wp_crdH rfl _ _ rfl w2.heap.size A k cA R1 _ rfl (HM6.out.first.keeps (Keeps.alloc _ _)) wr.heap.size ⟨g1, b, b, il b (F k)⟩ (by rw [(Blk.new wr #[.slice (some ⟨g1, 0, none⟩) b b] 45).cell 0]; unfold Hdr.v; rw [HLX.out]; rfl) (by rw [HLX.out]; exact (HX6.out.mono (Nat.le_of_lt hwL)).keeps (Keeps.alloc _ _)) rfl (by omega) (by have := (Keeps.alloc wr (.cells #[.slice (some ⟨g1, 0, none⟩) b b] 45)).size; omega) ?_; intro g15 c15 w15 hC15 hg15 hor15; have hM15 := (HM6.out.step (Keeps.alloc wr (.cells #[.slice (some ⟨g1, 0, none⟩) b b] 45))).row1 hC15 hg15 (by rcases hor15 with e | e; exact .inl e; exact .inr (by omega)); have hY15 : OwnInts w15 L (some ⟨g2, 0, none⟩) b b (il b (G k)) := own_kept (HY6.out.keeps (Keeps.alloc wr (.cells #[.slice (some ⟨g1, 0, none⟩) b b] 45))) hg15 (fun d hd e => own_type HY6.out HM6.out.first.top (by decide) d hd e); have e15 : w15.cell? ⟨w2.heap.size, 1, none⟩ = some (.slice A k cA) := hM15.box.cell 1; have f15 := hM15.box.frozen 1)))
                have HM16 : Hid (MSt (k + 1) k w2 (some ⟨g15, 0, none⟩) c15 (R1 ++ [⟨g1, b, b, il b (F k)⟩]) B cB R2 #[.slice S b c, .slice (some ⟨g15, 0, none⟩) (k + 1) c15, .slice B k cB] (w15.setCell ⟨w2.heap.size, 1, none⟩ (.slice (some ⟨g15, 0, none⟩) (k + 1) c15))) := Lib.hid (hM15.store 1 _)
                have HY16 : Hid (OwnInts (w15.setCell ⟨w2.heap.size, 1, none⟩ (.slice (some ⟨g15, 0, none⟩) (k + 1) c15)) L (some ⟨g2, 0, none⟩) b b (il b (G k))) := Lib.hid (hY15.grown (grown_set _ _ _ _) hM15.box (by decide))
                clear hC15 hg15 hor15 hM15 hY15 e15 f15 d1 HM6 HX6 HY6 hVlt hsz
                generalize w15.setCell ⟨w2.heap.size, 1, none⟩ (.slice (some ⟨g15, 0, none⟩) (k + 1) c15) = w16 at *
                have d2 : w16.cell? ⟨w2.heap.size, 2, none⟩ = some (.slice B k cB) := HM16.out.box.cell 2
                have hVlt := HM16.out.box.lt
                have hsz := HM16.out.keeps.size
                go_upto_region 22 with (first | (at_builtin; go_loud (refine wp_crdH rfl _ _ rfl w2.heap.size B k cB R2 _ rfl (HM16.out.second.keeps (Keeps.alloc _ _)) w16.heap.size ⟨g2, b, b, il b (G k)⟩ (by rw [(Blk.new w16 #[.slice (some ⟨g2, 0, none⟩) b b] 45).cell 0]; unfold Hdr.v; rw [HLY.out]; rfl) (by rw [HLY.out]; exact (HY16.out.mono (Nat.le_of_lt hwL)).keeps (Keeps.alloc _ _)) rfl (by omega) (by have := (Keeps.alloc w16 (.cells #[.slice (some ⟨g2, 0, none⟩) b b] 45)).size; omega) ?_; intro g17 c17 w17 hC17 hg17 hor17; have hM17 := (HM16.out.step (Keeps.alloc w16 (.cells #[.slice (some ⟨g2, 0, none⟩) b b] 45))).row2 hC17 hg17 (by rcases hor17 with e | e; exact .inl e; exact .inr (by omega)); have e17 : w17.cell? ⟨w2.heap.size, 2, none⟩ = some (.slice B k cB) := hM17.box.cell 2; have f17 := hM17.box.frozen 2)))
                have HM18 : Hid (MSt (k + 1) (k + 1) w2 (some ⟨g15, 0, none⟩) c15 (R1 ++ [⟨g1, b, b, il b (F k)⟩]) (some ⟨g17, 0, none⟩) c17 (R2 ++ [⟨g2, b, b, il b (G k)⟩]) #[.slice S b c, .slice (some ⟨g15, 0, none⟩) (k + 1) c15, .slice (some ⟨g17, 0, none⟩) (k + 1) c17] (w17.setCell ⟨w2.heap.size, 2, none⟩ (.slice (some ⟨g17, 0, none⟩) (k + 1) c17))) := Lib.hid (hM17.store 2 _)
                have HT2 : Hid ((R1 ++ [(⟨g1, b, b, il b (F k)⟩ : Hdr)]).map (·.l) = tabK b F (k + 1) ∧ (R2 ++ [(⟨g2, b, b, il b (G k)⟩ : Hdr)]).map (·.l) = tabK b G (k + 1)) := Lib.hid ⟨by rw [List.map_append, HT.out.1, tabK_succ]; rfl, by rw [List.map_append, HT.out.2, tabK_succ]; rfl⟩
                clear hC17 hg17 hor17 hM17 e17 f17 d2 HM16 HY16 hVlt hsz
                generalize w17.setCell ⟨w2.heap.size, 2, none⟩ (.slice (some ⟨g17, 0, none⟩) (k + 1) c17) = w18 at *
                go_wp2_with fail
                go_roundw
                case rel => exact ⟨k + 1, _, _, _, _, _, _, by omega, by go_num, HT2, HM18⟩
                case measure => simp [intOf]; omega
    · obtain rfl : k = n := by omega
      obtain ⟨gA, rfl, _, _⟩ := HM.out.first.at (by omega)
      obtain ⟨gB, rfl, _, _⟩ := HM.out.second.at (by omega)
      obtain ⟨_, _, _, hca, hca2, _, _⟩ := HM.out.first.top_blk
      obtain ⟨_, _, _, hcb, hcb2, _, _⟩ := HM.out.second.top_blk
      have hca3 : cA ≤ 9223372036854775807 := by unfold maxLen at hca2; omega
      have hcb3 : cB ≤ 9223372036854775807 := by unfold maxLen at hcb2; omega
      have CA := Lib.hid (fun W => slClipL_any gA k cA W hca hca3)
      have CB := Lib.hid (fun W => slClipL_any gB k cB W hcb hcb3)
      have d1 : wr.cell? ⟨w2.heap.size, 1, none⟩ = some (.slice (some ⟨gA, 0, none⟩) k cA) := HM.out.box.cell 1
      have d2 : wr.cell? ⟨w2.heap.size, 2, none⟩ = some (.slice (some ⟨gB, 0, none⟩) k cB) := HM.out.box.cell 2
      have f1 := HM.out.box.frozen 1
      have f2 := HM.out.box.frozen 2
      clear hca2 hcb2 hca hcb hca3 hcb3
      go_upto_region 23 with fail
      go_region_law (first | (refine step_go 127 #[.tmp 72] #[52] rfl rfl (fun _ _ => rfl) (by simp [Act.eval, Act.put]) (CA.out _) ?_; rintro e w6 ⟨rfl, rfl⟩; refine ⟨_, rfl, ?_⟩) | (refine step_go 127 #[.tmp 75] #[52] rfl rfl (fun _ _ => rfl) (by simp [Act.eval, Act.put]) (CB.out _) ?_; rintro e w6 ⟨rfl, rfl⟩; refine ⟨_, rfl, ?_⟩))
      all_goals
        have HM2 : Hid (MSt k k w2 (some ⟨gA, 0, none⟩) cA R1 (some ⟨gB, 0, none⟩) cB R2 #[.slice S k c, .slice (some ⟨gA, 0, none⟩) k k, .slice (some ⟨gB, 0, none⟩) k k] ((wr.setCell ⟨w2.heap.size, 1, none⟩ (.slice (some ⟨gA, 0, none⟩) k k)).setCell ⟨w2.heap.size, 2, none⟩ (.slice (some ⟨gB, 0, none⟩) k k)).drew) := Lib.hid (((HM.out.store 1 _).store 2 _).step (Keeps.drew1 _))
        as_aux_lemma =>
          clear HM d1 d2 f1 f2 CA CB
          generalize ((wr.setCell ⟨w2.heap.size, 1, none⟩ (.slice (some ⟨gA, 0, none⟩) k k)).setCell ⟨w2.heap.size, 2, none⟩ (.slice (some ⟨gB, 0, none⟩) k k)).drew = w9 at *
          have x0 : w9.cell? ⟨w2.heap.size, 0, none⟩ = some (.slice S k c) := HM2.out.box.cell 0
          have x1 : w9.cell? ⟨w2.heap.size, 1, none⟩ = some (.slice (some ⟨gA, 0, none⟩) k k) := HM2.out.box.cell 1
          have x2 : w9.cell? ⟨w2.heap.size, 2, none⟩ = some (.slice (some ⟨gB, 0, none⟩) k k) := HM2.out.box.cell 2
          have HR9 := Lib.hid (HRB.out.keeps HM2.out.keeps)
          have e0 : w9.cell? ⟨w.heap.size, 0, none⟩ = some (.slice none 0 0) := HR9.out.cell 0
          have e1 : w9.cell? ⟨w.heap.size, 1, none⟩ = some (.slice none 0 0) := HR9.out.cell 1
          have e2 : w9.cell? ⟨w.heap.size, 2, none⟩ = some (.slice none 0 0) := HR9.out.cell 2
          have f0 := HR9.out.frozen 0
          have f1 := HR9.out.frozen 1
          have f2 := HR9.out.frozen 2
          have hwz := HR9.out.lt
          go_wp2
          have y1 := ((HR9.out.set 0 (.slice S k c)).set 1 (.slice (some ⟨gA, 0, none⟩) k k)).set 2 (.slice (some ⟨gB, 0, none⟩) k k)
          have c0 : (((w9.setCell ⟨w.heap.size, 0, none⟩ (.slice S k c)).setCell ⟨w.heap.size, 1, none⟩ (.slice (some ⟨gA, 0, none⟩) k k)).setCell ⟨w.heap.size, 2, none⟩ (.slice (some ⟨gB, 0, none⟩) k k)).cell? ⟨w.heap.size, 0, none⟩ = some (.slice S k c) := y1.cell 0
          have c1 : (((w9.setCell ⟨w.heap.size, 0, none⟩ (.slice S k c)).setCell ⟨w.heap.size, 1, none⟩ (.slice (some ⟨gA, 0, none⟩) k k)).setCell ⟨w.heap.size, 2, none⟩ (.slice (some ⟨gB, 0, none⟩) k k)).cell? ⟨w.heap.size, 1, none⟩ = some (.slice (some ⟨gA, 0, none⟩) k k) := y1.cell 1
          have c2 : (((w9.setCell ⟨w.heap.size, 0, none⟩ (.slice S k c)).setCell ⟨w.heap.size, 1, none⟩ (.slice (some ⟨gA, 0, none⟩) k k)).setCell ⟨w.heap.size, 2, none⟩ (.slice (some ⟨gB, 0, none⟩) k k)).cell? ⟨w.heap.size, 2, none⟩ = some (.slice (some ⟨gB, 0, none⟩) k k) := y1.cell 2
          have hlow : w.heap.size < w2.heap.size := by have := HZ0.out; omega
          have HA9 := Lib.hid (((((HM2.out.first.low hlow 0 (.slice S k c)).low hlow 1 (.slice (some ⟨gA, 0, none⟩) k k)).low hlow 2 (.slice (some ⟨gB, 0, none⟩) k k))).mono (Nat.le_of_lt hlow)).crn
          have HB9 := Lib.hid (((((HM2.out.second.low hlow 0 (.slice S k c)).low hlow 1 (.slice (some ⟨gA, 0, none⟩) k k)).low hlow 2 (.slice (some ⟨gB, 0, none⟩) k k))).mono (Nat.le_of_lt hlow)).crn
          have HK9 := Lib.hid ((((HK0.out.step HM2.out.keeps).setCell (p := ⟨w.heap.size, 0, none⟩) (Nat.le_refl _) (.slice S k c)).setCell (p := ⟨w.heap.size, 1, none⟩) (Nat.le_refl _) (.slice (some ⟨gA, 0, none⟩) k k)).setCell (p := ⟨w.heap.size, 2, none⟩) (Nat.le_refl _) (.slice (some ⟨gB, 0, none⟩) k k))
          clear y1
          generalize ((w9.setCell ⟨w.heap.size, 0, none⟩ (.slice S k c)).setCell ⟨w.heap.size, 1, none⟩ (.slice (some ⟨gA, 0, none⟩) k k)).setCell ⟨w.heap.size, 2, none⟩ (.slice (some ⟨gB, 0, none⟩) k k) = W at *
          have key : ∀ a : Act, a.tmps[2]? = some (.pointer (some ⟨w.heap.size, 0, none⟩)) → a.defers = [] → bodyPost Tryz.prog Tryz.f99 (RulesMade w S k c F G) Exit.ret a W := fun a h2 hd => by
            refine bodyPost_ret (v := .agg #[.slice S k c, .slice (some ⟨gA, 0, none⟩) k k, .slice (some ⟨gB, 0, none⟩) k k]) (rules_results h2 c0 c1 c2) hd ⟨some ⟨gA, 0, none⟩, some ⟨gB, 0, none⟩, R1, R2, rfl, HT.out.1, HT.out.2, HA9.out, HB9.out, HK9.out⟩
          exact key _ rfl rfl
set_option maxHeartbeats 8000000 in
theorem rulesA_any (f : Nat) (S : Option Addr) (n c : Nat) (F G : Nat → Nat → Int) (w : World) (hn1 : 1 ≤ n) (hn4 : n ≤ 4) (hcl : ∀ (d a b : Nat) (W : World), Blk W d 158 #[.slice S n c, .func (.func f) #[] #[]] → a < n → b < n → Calls Tryz.prog 126 #[.int .i64 a, .int .i64 b, .pointer (some ⟨d, 0, none⟩)] W fun e w' => e = .returned (.tuple #[.int .i64 (F a b), .int .i64 (G a b)]) ∧ Keeps W w') :
    Calls Tryz.prog 99 #[.iface 158 (.agg #[.slice S n c, .func (.func f) #[] #[]])] w (RulesMade w S n c F G) := by
  have HCL := Lib.hid hcl
  clear hcl
  have HRB := Lib.hid ((Blk.new w #[.slice none 0 0, .slice none 0 0, .slice none 0 0] 54).keeps (Keeps.alloc _ (.cells #[.slice S n c, .func (.func f) #[] #[]] 158)))
  have HXB := Lib.hid (Blk.new (w.alloc (.cells #[.slice none 0 0, .slice none 0 0, .slice none 0 0] 54)) #[.slice S n c, .func (.func f) #[] #[]] 158)
  rw [World.size_alloc] at HXB
  have HK0 := Lib.hid ((Keeps.alloc w (.cells #[.slice none 0 0, .slice none 0 0, .slice none 0 0] 54)).step (Keeps.alloc _ (.cells #[.slice S n c, .func (.func f) #[] #[]] 158)))
  have HZ0 : Hid (((w.alloc (.cells #[.slice none 0 0, .slice none 0 0, .slice none 0 0] 54)).alloc (.cells #[.slice S n c, .func (.func f) #[] #[]] 158)).heap.size = w.heap.size + 2) := Lib.hid (by simp)
  have as1 := assertT_yes
  have as2 := assertT_no
  have as3 := assertA_yes
  go_enter Tryz.func99, Tryz.ntmps99
  go_upto_region 9 with fail
  generalize (w.alloc (.cells #[.slice none 0 0, .slice none 0 0, .slice none 0 0] 54)).alloc (.cells #[.slice S n c, .func (.func f) #[] #[]] 158) = w2 at *
  have d0 : w2.cell? ⟨w.heap.size + 1, 0, none⟩ = some (.slice S n c) := HXB.out.cell 0
  have HM : Hid (MSt 0 0 w2 none 0 [] none 0 [] #[.slice S n c, .slice none 0 0, .slice none 0 0] (w2.alloc (.cells #[.slice S n c, .slice none 0 0, .slice none 0 0] 54))) := Lib.hid ⟨Blk.new w2 _ _, ⟨World.ownsRow_nil _ _ _ 1, fun h hh => by simp at hh⟩, ⟨World.ownsRow_nil _ _ _ 1, fun h hh => by simp at hh⟩, fun d e => (by cases e), Keeps.alloc _ _⟩
  go_wp2_with fail
  generalize w2.alloc (.cells #[.slice S n c, .slice none 0 0, .slice none 0 0] 54) = w3 at *
  go_loopw [30] (fun i wr => ∃ (k : Nat) (A : Option Addr) (cA : Nat) (R1 : List Hdr) (B : Option Addr) (cB : Nat) (R2 : List Hdr), k ≤ n ∧ i = .int .i64 k ∧ Hid (R1.map (·.l) = tabK n F k ∧ R2.map (·.l) = tabK n G k) ∧ Hid (MSt k k w2 A cA R1 B cB R2 #[.slice S n c, .slice A k cA, .slice B k cB] wr)) (fun i _ => n - (intOf i).toNat)
  case atStart => exact ⟨0, none, 0, [], none, 0, [], by omega, rfl, Lib.hid ⟨rfl, rfl⟩, HM⟩
  case round =>
    clear HM
    obtain ⟨k, A, cA, R1, B, cB, R2, hk, rfl, HT, HM⟩ := hrel
    by_cases hlt : k < n
    · have hki : (k : Int) < n := by omega
      have hmk := make_ints n (by omega)
      have HLO : Hid (w2.heap.size < wr.heap.size ∧ (∀ d, A.map (·.block) = some d → d < wr.heap.size) ∧ (∀ d, B.map (·.block) = some d → d < wr.heap.size) ∧ ∀ h ∈ R1 ++ R2, h.g < wr.heap.size) := Lib.hid (by
        obtain ⟨h1, h2, h3, h4⟩ := HM.out.lows
        exact ⟨h4, fun d e => (h1 d e).2, fun d e => (h2 d e).2, fun z hz => (h3 z hz).2⟩)
      go_upto_region 14 with fail
      go_region_law (fail)
      · obtain ⟨L, hL⟩ : ∃ L, L = wr.heap.size := ⟨_, rfl⟩
        rw [← hL] at HLO
        (try simp only [Act.put, List.getElem_toArray, List.getElem_cons_succ, List.getElem_cons_zero, List.setIfInBounds_toArray, List.set_cons_succ, List.set_cons_zero])
        have HXY : Hid (MSt k k w2 A cA R1 B cB R2 #[.slice S n c, .slice A k cA, .slice B k cB] ((wr.alloc (.cells (madeCells #[.int .i64 0] n) 3)).alloc (.cells (madeCells #[.int .i64 0] n) 3)).drew ∧ OwnInts ((wr.alloc (.cells (madeCells #[.int .i64 0] n) 3)).alloc (.cells (madeCells #[.int .i64 0] n) 3)).drew L (some ⟨wr.heap.size, 0, none⟩) n n (il n (fun _ => 0)) ∧ OwnInts ((wr.alloc (.cells (madeCells #[.int .i64 0] n) 3)).alloc (.cells (madeCells #[.int .i64 0] n) 3)).drew L (some ⟨wr.heap.size + 1, 0, none⟩) n n (il n (fun _ => 0))) := Lib.hid (by
          have h1 := OwnInts.make wr L n (by omega) (by omega)
          have h2 := OwnInts.make (wr.alloc (.cells (madeCells #[.int .i64 0] n) 3)) L n (by simp; omega) (by omega)
          rw [World.size_alloc] at h2
          rw [il_zero] at h1 h2
          exact ⟨((HM.out.step (Keeps.alloc _ _)).step (Keeps.alloc _ _)).step (Keeps.drew1 _), (h1.keeps (Keeps.alloc _ _)).keeps (Keeps.drew1 _), h2.keeps (Keeps.drew1 _)⟩)
        as_aux_lemma =>
          clear HM hmk
          generalize ((wr.alloc (.cells (madeCells #[.int .i64 0] n) 3)).alloc (.cells (madeCells #[.int .i64 0] n) 3)).drew = w4 at *
          generalize hgb : wr.heap.size + 1 = g2 at *
          generalize hga : wr.heap.size = g1 at *
          have hg12 : g1 ≠ g2 := by omega
          have hg21 : g2 ≠ g1 := fun e => hg12 e.symm
          clear hL hga hgb
          go_wp2_with fail
          go_loopw [41] (fun j wi => ∃ (b : Nat), b ≤ n ∧ j = .int .i64 b ∧ Hid (MSt k k w2 A cA R1 B cB R2 #[.slice S n c, .slice A k cA, .slice B k cB] wi ∧ OwnInts wi L (some ⟨g1, 0, none⟩) n n (il n (fun j => if j < b then F k j else 0)) ∧ OwnInts wi L (some ⟨g2, 0, none⟩) n n (il n (fun j => if j < b then G k j else 0)))) (fun j _ => n - (intOf j).toNat)
          case atStart =>
            have h0 : (fun j : Nat => if j < 0 then F k j else (0 : Int)) = fun _ => 0 := by funext j; simp
            have h1 : (fun j : Nat => if j < 0 then G k j else (0 : Int)) = fun _ => 0 := by funext j; simp
            exact ⟨0, by omega, rfl, Lib.hid (by rw [h0, h1]; exact HXY.out)⟩
          case round =>
            clear HXY
            obtain ⟨b, hb, rfl, HIN⟩ := hrel
            by_cases hltb : b < n
            · have hbi : (b : Int) < n := by omega
              go_wp2_with fail
              refine (HCL.out (w.heap.size + 1) k b _ (HXB.out.keeps HIN.out.1.keeps) hlt hltb).mono ?_
              rintro e w5 ⟨rfl, hk5⟩
              have HM5 := Lib.hid (HIN.out.1.step hk5)
              have HX5 := Lib.hid (HIN.out.2.1.keeps hk5)
              have HY5 := Lib.hid (HIN.out.2.2.keeps hk5)
              have cx := HX5.out.cell b hltb
              have fx := HX5.out.frozen b
              have cy := HY5.out.cell b hltb
              have fy := HY5.out.frozen b
              clear HIN hk5
              generalize (il n (fun j => if j < b then F k j else 0)).getD b 0 = zx at cx
              generalize (il n (fun j => if j < b then G k j else 0)).getD b 0 = zy at cy
              go_upto_region 19 with fail
              have HXY : Hid (MSt k k w2 A cA R1 B cB R2 #[.slice S n c, .slice A k cA, .slice B k cB] ((w5.setCell ⟨g1, b, none⟩ (.int .i64 (F k b))).setCell ⟨g2, b, none⟩ (.int .i64 (G k b))) ∧ OwnInts ((w5.setCell ⟨g1, b, none⟩ (.int .i64 (F k b))).setCell ⟨g2, b, none⟩ (.int .i64 (G k b))) L (some ⟨g1, 0, none⟩) n n (il n (fun j => if j < b + 1 then F k j else 0)) ∧ OwnInts ((w5.setCell ⟨g1, b, none⟩ (.int .i64 (F k b))).setCell ⟨g2, b, none⟩ (.int .i64 (G k b))) L (some ⟨g2, 0, none⟩) n n (il n (fun j => if j < b + 1 then G k j else 0))) := Lib.hid (by
                have e1 : ∀ H : Nat → Nat → Int, (il n (fun j => if j < b then H k j else 0)).set b (H k b) = il n (fun j => if j < b + 1 then H k j else 0) := fun H => by
                  rw [il_set]
                  refine il_congr n _ _ (fun i hi => ?_)
                  by_cases e : i = b
                  · subst e; simp
                  · rw [if_neg e]
                    by_cases e2 : i < b
                    · rw [if_pos e2, if_pos (by omega)]
                    · rw [if_neg e2, if_neg (by omega)]
                have h1 := HX5.out.set b (F k b)
                have h2 := (HY5.out.set_other g1 b (.int .i64 (F k b)) hg12).set b (G k b)
                rw [e1] at h1 h2
                exact ⟨(HM5.out.above HLO.out.1 HLO.out.2 (grown_set _ _ _ _) HX5.out.block.1).above HLO.out.1 HLO.out.2 (grown_set _ _ _ _) HY5.out.block.1, h1.set_other g2 b _ hg21, h2⟩)
              clear HM5 HX5 HY5 cx fx cy fy
              generalize (w5.setCell ⟨g1, b, none⟩ (.int .i64 (F k b))).setCell ⟨g2, b, none⟩ (.int .i64 (G k b)) = w6 at *
              go_wp2_with fail
              go_roundw
              case rel => exact ⟨b + 1, by omega, by go_num, HXY⟩
              case measure => simp [intOf]; omega
            · obtain rfl : b = n := by omega
              have HM6 := Lib.hid HIN.out.1
              have HX6 : Hid (OwnInts wr L (some ⟨g1, 0, none⟩) b b (il b (F k))) := Lib.hid (by
                have h := HIN.out.2.1
                rw [il_congr b _ (F k) (fun i hi => by rw [if_pos hi])] at h
                exact h)
              have HY6 : Hid (OwnInts wr L (some ⟨g2, 0, none⟩) b b (il b (G k))) := Lib.hid (by
                have h := HIN.out.2.2
                rw [il_congr b _ (G k) (fun i hi => by rw [if_pos hi])] at h
                exact h)
              have hwL := HLO.out.1
              have d1 : wr.cell? ⟨w2.heap.size, 1, none⟩ = some (.slice A k cA) := HM6.out.box.cell 1
              have hVlt := HM6.out.box.lt
              have HLX : Hid ((il b (F k)).length = b) := Lib.hid (il_len _ _)
              have HLY : Hid ((il b (G k)).length = b) := Lib.hid (il_len _ _)
              have hsz := HM6.out.keeps.size
              clear HIN
              as_aux_lemma =>
                go_upto_region 21 with (first | (at_builtin; go_loud (refine wp_crdH rfl _ _ rfl w2.heap.size A k cA R1 _ rfl (HM6.out.first.keeps (Keeps.alloc _ _)) wr.heap.size ⟨g1, b, b, il b (F k)⟩ (by rw [(Blk.new wr #[.slice (some ⟨g1, 0, none⟩) b b] 45).cell 0]; unfold Hdr.v; rw [HLX.out]; rfl) (by rw [HLX.out]; exact (HX6.out.mono (Nat.le_of_lt hwL)).keeps (Keeps.alloc _ _)) rfl (by omega) (by have := (Keeps.alloc wr (.cells #[.slice (some ⟨g1, 0, none⟩) b b] 45)).size; omega) ?_; intro g15 c15 w15 hC15 hg15 hor15; have hM15 := (HM6.out.step (Keeps.alloc wr (.cells #[.slice (some ⟨g1, 0, none⟩) b b] 45))).row1 hC15 hg15 (by rcases hor15 with e | e; exact .inl e; exact .inr (by omega)); have hY15 : OwnInts w15 L (some ⟨g2, 0, none⟩) b b (il b (G k)) := own_kept (HY6.out.keeps (Keeps.alloc wr (.cells #[.slice (some ⟨g1, 0, none⟩) b b] 45))) hg15 (fun d hd e => own_type HY6.out HM6.out.first.top (by decide) d hd e); have e15 : w15.cell? ⟨w2.heap.size, 1, none⟩ = some (.slice A k cA) := hM15.box.cell 1; have f15 := hM15.box.frozen 1)))
                have HM16 : Hid (MSt (k + 1) k w2 (some ⟨g15, 0, none⟩) c15 (R1 ++ [⟨g1, b, b, il b (F k)⟩]) B cB R2 #[.slice S b c, .slice (some ⟨g15, 0, none⟩) (k + 1) c15, .slice B k cB] (w15.setCell ⟨w2.heap.size, 1, none⟩ (.slice (some ⟨g15, 0, none⟩) (k + 1) c15))) := Lib.hid (hM15.store 1 _)
                have HY16 : Hid (OwnInts (w15.setCell ⟨w2.heap.size, 1, none⟩ (.slice (some ⟨g15, 0, none⟩) (k + 1) c15)) L (some ⟨g2, 0, none⟩) b b (il b (G k))) := Lib.hid (hY15.grown (grown_set _ _ _ _) hM15.box (by decide))
                clear hC15 hg15 hor15 hM15 hY15 e15 f15 d1 HM6 HX6 HY6 hVlt hsz
                generalize w15.setCell ⟨w2.heap.size, 1, none⟩ (.slice (some ⟨g15, 0, none⟩) (k + 1) c15) = w16 at *
                have d2 : w16.cell? ⟨w2.heap.size, 2, none⟩ = some (.slice B k cB) := HM16.out.box.cell 2
                have hVlt := HM16.out.box.lt
                have hsz := HM16.out.keeps.size
                go_upto_region 22 with (first | (at_builtin; go_loud (refine wp_crdH rfl _ _ rfl w2.heap.size B k cB R2 _ rfl (HM16.out.second.keeps (Keeps.alloc _ _)) w16.heap.size ⟨g2, b, b, il b (G k)⟩ (by rw [(Blk.new w16 #[.slice (some ⟨g2, 0, none⟩) b b] 45).cell 0]; unfold Hdr.v; rw [HLY.out]; rfl) (by rw [HLY.out]; exact (HY16.out.mono (Nat.le_of_lt hwL)).keeps (Keeps.alloc _ _)) rfl (by omega) (by have := (Keeps.alloc w16 (.cells #[.slice (some ⟨g2, 0, none⟩) b b] 45)).size; omega) ?_; intro g17 c17 w17 hC17 hg17 hor17; have hM17 := (HM16.out.step (Keeps.alloc w16 (.cells #[.slice (some ⟨g2, 0, none⟩) b b] 45))).row2 hC17 hg17 (by rcases hor17 with e | e; exact .inl e; exact .inr (by omega)); have e17 : w17.cell? ⟨w2.heap.size, 2, none⟩ = some (.slice B k cB) := hM17.box.cell 2; have f17 := hM17.box.frozen 2)))
                have HM18 : Hid (MSt (k + 1) (k + 1) w2 (some ⟨g15, 0, none⟩) c15 (R1 ++ [⟨g1, b, b, il b (F k)⟩]) (some ⟨g17, 0, none⟩) c17 (R2 ++ [⟨g2, b, b, il b (G k)⟩]) #[.slice S b c, .slice (some ⟨g15, 0, none⟩) (k + 1) c15, .slice (some ⟨g17, 0, none⟩) (k + 1) c17] (w17.setCell ⟨w2.heap.size, 2, none⟩ (.slice (some ⟨g17, 0, none⟩) (k + 1) c17))) := Lib.hid (hM17.store 2 _)
                have HT2 : Hid ((R1 ++ [(⟨g1, b, b, il b (F k)⟩ : Hdr)]).map (·.l) = tabK b F (k + 1) ∧ (R2 ++ [(⟨g2, b, b, il b (G k)⟩ : Hdr)]).map (·.l) = tabK b G (k + 1)) := Lib.hid ⟨by rw [List.map_append, HT.out.1, tabK_succ]; rfl, by rw [List.map_append, HT.out.2, tabK_succ]; rfl⟩
                clear hC17 hg17 hor17 hM17 e17 f17 d2 HM16 HY16 hVlt hsz
                generalize w17.setCell ⟨w2.heap.size, 2, none⟩ (.slice (some ⟨g17, 0, none⟩) (k + 1) c17) = w18 at *
                go_wp2_with fail
                go_roundw
                case rel => exact ⟨k + 1, _, _, _, _, _, _, by omega, by go_num, HT2, HM18⟩
                case measure => simp [intOf]; omega
      · obtain ⟨L, hL⟩ : ∃ L, L = wr.heap.size := ⟨_, rfl⟩
        rw [← hL] at HLO
        (try simp only [Act.put, List.getElem_toArray, List.getElem_cons_succ, List.getElem_cons_zero, List.setIfInBounds_toArray, List.set_cons_succ, List.set_cons_zero])
        have HXY : Hid (MSt k k w2 A cA R1 B cB R2 #[.slice S n c, .slice A k cA, .slice B k cB] ((wr.alloc (.cells (madeCells #[.int .i64 0] n) 3)).alloc (.cells (madeCells #[.int .i64 0] n) 3)).drew ∧ OwnInts ((wr.alloc (.cells (madeCells #[.int .i64 0] n) 3)).alloc (.cells (madeCells #[.int .i64 0] n) 3)).drew L (some ⟨wr.heap.size, 0, none⟩) n n (il n (fun _ => 0)) ∧ OwnInts ((wr.alloc (.cells (madeCells #[.int .i64 0] n) 3)).alloc (.cells (madeCells #[.int .i64 0] n) 3)).drew L (some ⟨wr.heap.size + 1, 0, none⟩) n n (il n (fun _ => 0))) := Lib.hid (by
          have h1 := OwnInts.make wr L n (by omega) (by omega)
          have h2 := OwnInts.make (wr.alloc (.cells (madeCells #[.int .i64 0] n) 3)) L n (by simp; omega) (by omega)
          rw [World.size_alloc] at h2
          rw [il_zero] at h1 h2
          exact ⟨((HM.out.step (Keeps.alloc _ _)).step (Keeps.alloc _ _)).step (Keeps.drew1 _), (h1.keeps (Keeps.alloc _ _)).keeps (Keeps.drew1 _), h2.keeps (Keeps.drew1 _)⟩)
        as_aux_lemma =>
          clear HM hmk
          generalize ((wr.alloc (.cells (madeCells #[.int .i64 0] n) 3)).alloc (.cells (madeCells #[.int .i64 0] n) 3)).drew = w4 at *
          generalize hgb : wr.heap.size + 1 = g1 at *
          generalize hga : wr.heap.size = g2 at *
          have hg12 : g1 ≠ g2 := by omega
          have hg21 : g2 ≠ g1 := fun e => hg12 e.symm
          clear hL hga hgb
          go_wp2_with fail
          go_loopw [41] (fun j wi => ∃ (b : Nat), b ≤ n ∧ j = .int .i64 b ∧ Hid (MSt k k w2 A cA R1 B cB R2 #[.slice S n c, .slice A k cA, .slice B k cB] wi ∧ OwnInts wi L (some ⟨g1, 0, none⟩) n n (il n (fun j => if j < b then F k j else 0)) ∧ OwnInts wi L (some ⟨g2, 0, none⟩) n n (il n (fun j => if j < b then G k j else 0)))) (fun j _ => n - (intOf j).toNat)
          case atStart =>
            have h0 : (fun j : Nat => if j < 0 then F k j else (0 : Int)) = fun _ => 0 := by funext j; simp
            have h1 : (fun j : Nat => if j < 0 then G k j else (0 : Int)) = fun _ => 0 := by funext j; simp
            exact ⟨0, by omega, rfl, Lib.hid (by rw [h0, h1]; exact ⟨HXY.out.1, HXY.out.2.2, HXY.out.2.1⟩)⟩
          case round =>
            clear HXY
            obtain ⟨b, hb, rfl, HIN⟩ := hrel
            by_cases hltb : b < n
            · have hbi : (b : Int) < n := by omega
              go_wp2_with fail
              refine (HCL.out (w.heap.size + 1) k b _ (HXB.out.keeps HIN.out.1.keeps) hlt hltb).mono ?_
              rintro e w5 ⟨rfl, hk5⟩
              have HM5 := Lib.hid (HIN.out.1.step hk5)
              have HX5 := Lib.hid (HIN.out.2.1.keeps hk5)
              have HY5 := Lib.hid (HIN.out.2.2.keeps hk5)
              have cx := HX5.out.cell b hltb
              have fx := HX5.out.frozen b
              have cy := HY5.out.cell b hltb
              have fy := HY5.out.frozen b
              clear HIN hk5
              generalize (il n (fun j => if j < b then F k j else 0)).getD b 0 = zx at cx
              generalize (il n (fun j => if j < b then G k j else 0)).getD b 0 = zy at cy
              go_upto_region 19 with fail
              have HXY : Hid (MSt k k w2 A cA R1 B cB R2 #[.slice S n c, .slice A k cA, .slice B k cB] ((w5.setCell ⟨g1, b, none⟩ (.int .i64 (F k b))).setCell ⟨g2, b, none⟩ (.int .i64 (G k b))) ∧ OwnInts ((w5.setCell ⟨g1, b, none⟩ (.int .i64 (F k b))).setCell ⟨g2, b, none⟩ (.int .i64 (G k b))) L (some ⟨g1, 0, none⟩) n n (il n (fun j => if j < b + 1 then F k j else 0)) ∧ OwnInts ((w5.setCell ⟨g1, b, none⟩ (.int .i64 (F k b))).setCell ⟨g2, b, none⟩ (.int .i64 (G k b))) L (some ⟨g2, 0, none⟩) n n (il n (fun j => if j < b + 1 then G k j else 0))) := Lib.hid (by
                have e1 : ∀ H : Nat → Nat → Int, (il n (fun j => if j < b then H k j else 0)).set b (H k b) = il n (fun j => if j < b + 1 then H k j else 0) := fun H => by
                  rw [il_set]
                  refine il_congr n _ _ (fun i hi => ?_)
                  by_cases e : i = b
                  · subst e; simp
                  · rw [if_neg e]
                    by_cases e2 : i < b
                    · rw [if_pos e2, if_pos (by omega)]
                    · rw [if_neg e2, if_neg (by omega)]
                have h1 := HX5.out.set b (F k b)
                have h2 := (HY5.out.set_other g1 b (.int .i64 (F k b)) hg12).set b (G k b)
                rw [e1] at h1 h2
                exact ⟨(HM5.out.above HLO.out.1 HLO.out.2 (grown_set _ _ _ _) HX5.out.block.1).above HLO.out.1 HLO.out.2 (grown_set _ _ _ _) HY5.out.block.1, h1.set_other g2 b _ hg21, h2⟩)
              clear HM5 HX5 HY5 cx fx cy fy
              generalize (w5.setCell ⟨g1, b, none⟩ (.int .i64 (F k b))).setCell ⟨g2, b, none⟩ (.int .i64 (G k b)) = w6 at *
              go_wp2_with fail
              go_roundw
              case rel => exact ⟨b + 1, by omega, by go_num, HXY⟩
              case measure => simp [intOf]; omega
            · obtain rfl : b = n := by omega
              have HM6 := Lib.hid HIN.out.1
              have HX6 : Hid (OwnInts wr L (some ⟨g1, 0, none⟩) b b (il b (F k))) := Lib.hid (by
                have h := HIN.out.2.1
                rw [il_congr b _ (F k) (fun i hi => by rw [if_pos hi])] at h
                exact h)
              have HY6 : Hid (OwnInts wr L (some ⟨g2, 0, none⟩) b b (il b (G k))) := Lib.hid (by
                have h := HIN.out.2.2
                rw [il_congr b _ (G k) (fun i hi => by rw [if_pos hi])] at h
                exact h)
              have hwL := HLO.out.1
              have d1 : wr.cell? ⟨w2.heap.size, 1, none⟩ = some (.slice A k cA) := HM6.out.box.cell 1
              have hVlt := HM6.out.box.lt
              have HLX : Hid ((il b (F k)).length = b) := Lib.hid (il_len _ _)
              have HLY : Hid ((il b (G k)).length = b) := Lib.hid (il_len _ _)
              have hsz := HM6.out.keeps.size
              clear HIN
              as_aux_lemma =>
                go_upto_region 21 with (first | (at_builtin; go_loud (refine wp_crdH rfl _ _ rfl w2.heap.size A k cA R1 _ rfl (HM6.out.first.keeps (Keeps.alloc _ _)) wr.heap.size ⟨g1, b, b, il b (F k)⟩ (by rw [(Blk.new wr #[.slice (some ⟨g1, 0, none⟩) b b] 45).cell 0]; unfold Hdr.v; rw [HLX.out]; rfl) (by rw [HLX.out]; exact (HX6.out.mono (Nat.le_of_lt hwL)).keeps (Keeps.alloc _ _)) rfl (by omega) (by have := (Keeps.alloc wr (.cells #[.slice (some ⟨g1, 0, none⟩) b b] 45)).size; omega) ?_; intro g15 c15 w15 hC15 hg15 hor15; have hM15 := (HM6.out.step (Keeps.alloc wr (.cells #[.slice (some ⟨g1, 0, none⟩) b b] 45))).row1 hC15 hg15 (by rcases hor15 with e | e; exact .inl e; exact .inr (by omega)); have hY15 : OwnInts w15 L (some ⟨g2, 0, none⟩) b b (il b (G k)) := own_kept (HY6.out.keeps (Keeps.alloc wr (.cells #[.slice (some ⟨g1, 0, none⟩) b b] 45))) hg15 (fun d hd e => own_type HY6.out HM6.out.first.top (by decide) d hd e); have e15 : w15.cell? ⟨w2.heap.size, 1, none⟩ = some (.slice A k cA) := hM15.box.cell 1; have f15 := hM15.box.frozen 1)))
                have HM16 : Hid (MSt (k + 1) k w2 (some ⟨g15, 0, none⟩) c15 (R1 ++ [⟨g1, b, b, il b (F k)⟩]) B cB R2 #[.slice S b c, .slice (some ⟨g15, 0, none⟩) (k + 1) c15, .slice B k cB] (w15.setCell ⟨w2.heap.size, 1, none⟩ (.slice (some ⟨g15, 0, none⟩) (k + 1) c15))) := Lib.hid (hM15.store 1 _)
                have HY16 : Hid (OwnInts (w15.setCell ⟨w2.heap.size, 1, none⟩ (.slice (some ⟨g15, 0, none⟩) (k + 1) c15)) L (some ⟨g2, 0, none⟩) b b (il b (G k))) := Lib.hid (hY15.grown (grown_set _ _ _ _) hM15.box (by decide))
                clear hC15 hg15 hor15 hM15 hY15 e15 f15 d1 HM6 HX6 HY6 hVlt hsz
                generalize w15.setCell ⟨w2.heap.size, 1, none⟩ (.slice (some ⟨g15, 0, none⟩) (k + 1) c15) = w16 at *
                have d2 : w16.cell? ⟨w2.heap.size, 2, none⟩ = some (.slice B k cB) := HM16.out.box.cell 2
                have hVlt := HM16.out.box.lt
                have hsz := HM16.out.keeps.size
                go_upto_region 22 with (first | (at_builtin; go_loud (refine wp_crdH rfl _ _ rfl w2.heap.size B k cB R2 _ rfl (HM16.out.second.keeps (Keeps.alloc _ _)) w16.heap.size ⟨g2, b, b, il b (G k)⟩ (by rw [(Blk.new w16 #[.slice (some ⟨g2, 0, none⟩) b b] 45).cell 0]; unfold Hdr.v; rw [HLY.out]; rfl) (by rw [HLY.out]; exact (HY16.out.mono (Nat.le_of_lt hwL)).keeps (Keeps.alloc _ _)) rfl (by omega) (by have := (Keeps.alloc w16 (.cells #[.slice (some ⟨g2, 0, none⟩) b b] 45)).size; omega) ?_; intro g17 c17 w17 hC17 hg17 hor17; have hM17 := (HM16.out.step (Keeps.alloc w16 (.cells #[.slice (some ⟨g2, 0, none⟩) b b] 45))).row2 hC17 hg17 (by rcases hor17 with e | e; exact .inl e; exact .inr (by omega)); have e17 : w17.cell? ⟨w2.heap.size, 2, none⟩ = some (.slice B k cB) := hM17.box.cell 2; have f17 := hM17.box.frozen 2)))
                have HM18 : Hid (MSt (k + 1) (k + 1) w2 (some ⟨g15, 0, none⟩) c15 (R1 ++ [⟨g1, b, b, il b (F k)⟩]) (some ⟨g17, 0, none⟩) c17 (R2 ++ [⟨g2, b, b, il b (G k)⟩]) #[.slice S b c, .slice (some ⟨g15, 0, none⟩) (k + 1) c15, .slice (some ⟨g17, 0, none⟩) (k + 1) c17] (w17.setCell ⟨w2.heap.size, 2, none⟩ (.slice (some ⟨g17, 0, none⟩) (k + 1) c17))) := Lib.hid (hM17.store 2 _)
                have HT2 : Hid ((R1 ++ [(⟨g1, b, b, il b (F k)⟩ : Hdr)]).map (·.l) = tabK b F (k + 1) ∧ (R2 ++ [(⟨g2, b, b, il b (G k)⟩ : Hdr)]).map (·.l) = tabK b G (k + 1)) := Lib.hid ⟨by rw [List.map_append, HT.out.1, tabK_succ]; rfl, by rw [List.map_append, HT.out.2, tabK_succ]; rfl⟩
                clear hC17 hg17 hor17 hM17 e17 f17 d2 HM16 HY16 hVlt hsz
                generalize w17.setCell ⟨w2.heap.size, 2, none⟩ (.slice (some ⟨g17, 0, none⟩) (k + 1) c17) = w18 at *
                go_wp2_with fail
                go_roundw
                case rel => exact ⟨k + 1, _, _, _, _, _, _, by omega, by go_num, HT2, HM18⟩
                case measure => simp [intOf]; omega
    · obtain rfl : k = n := by omega
      obtain ⟨gA, rfl, _, _⟩ := HM.out.first.at (by omega)
      obtain ⟨gB, rfl, _, _⟩ := HM.out.second.at (by omega)
      obtain ⟨_, _, _, hca, hca2, _, _⟩ := HM.out.first.top_blk
      obtain ⟨_, _, _, hcb, hcb2, _, _⟩ := HM.out.second.top_blk
      have hca3 : cA ≤ 9223372036854775807 := by unfold maxLen at hca2; omega
      have hcb3 : cB ≤ 9223372036854775807 := by unfold maxLen at hcb2; omega
      have CA := Lib.hid (fun W => slClipL_any gA k cA W hca hca3)
      have CB := Lib.hid (fun W => slClipL_any gB k cB W hcb hcb3)
      have d1 : wr.cell? ⟨w2.heap.size, 1, none⟩ = some (.slice (some ⟨gA, 0, none⟩) k cA) := HM.out.box.cell 1
      have d2 : wr.cell? ⟨w2.heap.size, 2, none⟩ = some (.slice (some ⟨gB, 0, none⟩) k cB) := HM.out.box.cell 2
      have f1 := HM.out.box.frozen 1
      have f2 := HM.out.box.frozen 2
      clear hca2 hcb2 hca hcb hca3 hcb3
      go_upto_region 23 with fail
      go_region_law (first | (refine step_go 127 #[.tmp 72] #[52] rfl rfl (fun _ _ => rfl) (by simp [Act.eval, Act.put]) (CA.out _) ?_; rintro e w6 ⟨rfl, rfl⟩; refine ⟨_, rfl, ?_⟩) | (refine step_go 127 #[.tmp 75] #[52] rfl rfl (fun _ _ => rfl) (by simp [Act.eval, Act.put]) (CB.out _) ?_; rintro e w6 ⟨rfl, rfl⟩; refine ⟨_, rfl, ?_⟩))
      all_goals
        have HM2 : Hid (MSt k k w2 (some ⟨gA, 0, none⟩) cA R1 (some ⟨gB, 0, none⟩) cB R2 #[.slice S k c, .slice (some ⟨gA, 0, none⟩) k k, .slice (some ⟨gB, 0, none⟩) k k] ((wr.setCell ⟨w2.heap.size, 1, none⟩ (.slice (some ⟨gA, 0, none⟩) k k)).setCell ⟨w2.heap.size, 2, none⟩ (.slice (some ⟨gB, 0, none⟩) k k)).drew) := Lib.hid (((HM.out.store 1 _).store 2 _).step (Keeps.drew1 _))
        as_aux_lemma =>
          clear HM d1 d2 f1 f2 CA CB
          generalize ((wr.setCell ⟨w2.heap.size, 1, none⟩ (.slice (some ⟨gA, 0, none⟩) k k)).setCell ⟨w2.heap.size, 2, none⟩ (.slice (some ⟨gB, 0, none⟩) k k)).drew = w9 at *
          have x0 : w9.cell? ⟨w2.heap.size, 0, none⟩ = some (.slice S k c) := HM2.out.box.cell 0
          have x1 : w9.cell? ⟨w2.heap.size, 1, none⟩ = some (.slice (some ⟨gA, 0, none⟩) k k) := HM2.out.box.cell 1
          have x2 : w9.cell? ⟨w2.heap.size, 2, none⟩ = some (.slice (some ⟨gB, 0, none⟩) k k) := HM2.out.box.cell 2
          have HR9 := Lib.hid (HRB.out.keeps HM2.out.keeps)
          have e0 : w9.cell? ⟨w.heap.size, 0, none⟩ = some (.slice none 0 0) := HR9.out.cell 0
          have e1 : w9.cell? ⟨w.heap.size, 1, none⟩ = some (.slice none 0 0) := HR9.out.cell 1
          have e2 : w9.cell? ⟨w.heap.size, 2, none⟩ = some (.slice none 0 0) := HR9.out.cell 2
          have f0 := HR9.out.frozen 0
          have f1 := HR9.out.frozen 1
          have f2 := HR9.out.frozen 2
          have hwz := HR9.out.lt
          go_wp2
          have y1 := ((HR9.out.set 0 (.slice S k c)).set 1 (.slice (some ⟨gA, 0, none⟩) k k)).set 2 (.slice (some ⟨gB, 0, none⟩) k k)
          have c0 : (((w9.setCell ⟨w.heap.size, 0, none⟩ (.slice S k c)).setCell ⟨w.heap.size, 1, none⟩ (.slice (some ⟨gA, 0, none⟩) k k)).setCell ⟨w.heap.size, 2, none⟩ (.slice (some ⟨gB, 0, none⟩) k k)).cell? ⟨w.heap.size, 0, none⟩ = some (.slice S k c) := y1.cell 0
          have c1 : (((w9.setCell ⟨w.heap.size, 0, none⟩ (.slice S k c)).setCell ⟨w.heap.size, 1, none⟩ (.slice (some ⟨gA, 0, none⟩) k k)).setCell ⟨w.heap.size, 2, none⟩ (.slice (some ⟨gB, 0, none⟩) k k)).cell? ⟨w.heap.size, 1, none⟩ = some (.slice (some ⟨gA, 0, none⟩) k k) := y1.cell 1
          have c2 : (((w9.setCell ⟨w.heap.size, 0, none⟩ (.slice S k c)).setCell ⟨w.heap.size, 1, none⟩ (.slice (some ⟨gA, 0, none⟩) k k)).setCell ⟨w.heap.size, 2, none⟩ (.slice (some ⟨gB, 0, none⟩) k k)).cell? ⟨w.heap.size, 2, none⟩ = some (.slice (some ⟨gB, 0, none⟩) k k) := y1.cell 2
          have hlow : w.heap.size < w2.heap.size := by have := HZ0.out; omega
          have HA9 := Lib.hid (((((HM2.out.first.low hlow 0 (.slice S k c)).low hlow 1 (.slice (some ⟨gA, 0, none⟩) k k)).low hlow 2 (.slice (some ⟨gB, 0, none⟩) k k))).mono (Nat.le_of_lt hlow)).crn
          have HB9 := Lib.hid (((((HM2.out.second.low hlow 0 (.slice S k c)).low hlow 1 (.slice (some ⟨gA, 0, none⟩) k k)).low hlow 2 (.slice (some ⟨gB, 0, none⟩) k k))).mono (Nat.le_of_lt hlow)).crn
          have HK9 := Lib.hid ((((HK0.out.step HM2.out.keeps).setCell (p := ⟨w.heap.size, 0, none⟩) (Nat.le_refl _) (.slice S k c)).setCell (p := ⟨w.heap.size, 1, none⟩) (Nat.le_refl _) (.slice (some ⟨gA, 0, none⟩) k k)).setCell (p := ⟨w.heap.size, 2, none⟩) (Nat.le_refl _) (.slice (some ⟨gB, 0, none⟩) k k))
          clear y1
          generalize ((w9.setCell ⟨w.heap.size, 0, none⟩ (.slice S k c)).setCell ⟨w.heap.size, 1, none⟩ (.slice (some ⟨gA, 0, none⟩) k k)).setCell ⟨w.heap.size, 2, none⟩ (.slice (some ⟨gB, 0, none⟩) k k) = W at *
          have key : ∀ a : Act, a.tmps[2]? = some (.pointer (some ⟨w.heap.size, 0, none⟩)) → a.defers = [] → bodyPost Tryz.prog Tryz.f99 (RulesMade w S k c F G) Exit.ret a W := fun a h2 hd => by
            refine bodyPost_ret (v := .agg #[.slice S k c, .slice (some ⟨gA, 0, none⟩) k k, .slice (some ⟨gB, 0, none⟩) k k]) (rules_results h2 c0 c1 c2) hd ⟨some ⟨gA, 0, none⟩, some ⟨gB, 0, none⟩, R1, R2, rfl, HT.out.1, HT.out.2, HA9.out, HB9.out, HK9.out⟩
          exact key _ rfl rfl
end Go.Proofs.YtlniogfinofakaaGreatDoor
/-
  The program's RulesOf at the four names. No condition.
-/
namespace Go.Proofs.YtlniogfinofakaaGreatDoor
set_option maxRecDepth 100000
set_option linter.unusedVariables false
set_option maxRecDepth 100000
open Go.RowKit

/-- Rules and true, as RulesOf hands them back. -/
def RulesTold (w : World) (n : Nat) (l : List Int) (F G : Nat → Nat → Int) (e : Ending) (w' : World) : Prop :=
  ∃ (S A B : Option Addr) (R1 R2 : List Hdr), e = .returned (.tuple #[.agg #[.slice S n n, .slice A n n, .slice B n n], .bool true]) ∧ R1.map (·.l) = tabK n F n ∧ R2.map (·.l) = tabK n G n ∧ Ints w' S n (lsI l) ∧ Crn w' w.heap.size A n R1 ∧ Crn w' w.heap.size B n R2 ∧ Keeps w w'
theorem Crn.low {w : World} {lo m r : Nat} {A : Option Addr} {R : List Hdr} (h : Crn w lo A m R) (hr : r < lo) (j : Nat) (v : Value) : Crn (w.setCell ⟨r, j, none⟩ v) lo A m R := by
  refine ⟨h.len, ?_, fun z hz => own_kept (h.row z hz) (grown_set w r j v) (fun d hd e => by have e2 : r = d := (by simpa using e); have := (own_block (h.row z hz) d hd).1; omega)⟩
  rcases h.top with h0 | ⟨g, cur, e, h1, h2, h3⟩
  · exact .inl h0
  · exact .inr ⟨g, cur, e, h1, h2.set_other _ _ (by simp only; omega), h3⟩
theorem Crn.mono' {w : World} {lo lo' m : Nat} {A : Option Addr} {R : List Hdr} (h : Crn w lo A m R) (hl : lo' ≤ lo) : Crn w lo' A m R := by
  refine ⟨h.len, ?_, fun z hz => (h.row z hz).mono hl⟩
  rcases h.top with h0 | ⟨g, cur, e, h1, h2, h3⟩
  · exact .inl h0
  · exact .inr ⟨g, cur, e, by omega, h2, h3⟩
theorem Ints.other {w : World} {d n r : Nat} {x : Nat → Int} (h : Ints w (some ⟨d, 0, none⟩) n x) (hr : r ≠ d) (j : Nat) (v : Value) : Ints (w.setCell ⟨r, j, none⟩ v) (some ⟨d, 0, none⟩) n x := fun i hi => by
  obtain ⟨d', off, e, hc⟩ := h i hi
  cases e
  refine ⟨d, 0, rfl, ?_⟩
  rw [World.cell?_setCell_other (h := fun e => hr (congrArg Addr.block e))]
  exact hc
theorem told_results {a : Act} {W : World} {b : Nat} {v0 v1 v2 : Value} {v : Value} (h2 : a.tmps[2]? = some (.pointer (some ⟨b, 0, none⟩))) (h3 : a.tmps[3]? = some v) (c0 : W.cell? ⟨b, 0, none⟩ = some v0) (c1 : W.cell? ⟨b, 1, none⟩ = some v1) (c2 : W.cell? ⟨b, 2, none⟩ = some v2) : (results Tryz.f67 a.tmps).run Tryz.prog W = .ok (.tuple #[.agg #[v0, v1, v2], v]) W := by
  simp [results, Tryz.results67, go_sem, c0, c1, c2, h2, h3]
theorem both_some (d a b c : Nat) (S : Option Addr) (ha : a < 2) (hb : b < 2) (w : World) (hB : Blk w d 158 #[.slice S 2 c, .func (.func 121) #[] #[]]) :
    Calls Tryz.prog 126 #[.int .i64 a, .int .i64 b, .pointer (some ⟨d, 0, none⟩)] w fun e w' => e = .returned (.tuple #[.int .i64 (lsII [[0, 1], [1, 1]] a b), .int .i64 (lsII [[0, 1], [1, 1]] a b)]) ∧ Keeps w w' := by
  have h1 : w.cell? ⟨d, 1, none⟩ = some (.func (.func 121) #[] #[]) := hB.cell 1
  have HE : Hid (lsII [[0, 1], [1, 1]] b a = lsII [[0, 1], [1, 1]] a b) := Lib.hid (by
    rcases below2 ha with rfl | rfl <;> rcases below2 hb with rfl | rfl <;> rfl)
  have C1 := Lib.hid (fun W => meet1_any a b ha hb W)
  have C2 := Lib.hid (fun W => meet1_any b a hb ha W)
  clear hB
  generalize lsII [[0, 1], [1, 1]] a b = x at *
  generalize lsII [[0, 1], [1, 1]] b a = y at *
  go_enter Tryz.func126, Tryz.ntmps126
  go_wp2_with fail
  go_quiet (first | (go_at_call 121; first | (with_reducible exact Calls.quiet_of_same ((C1.out _).mono fun _ _ h => ⟨h.1, h.2.symm⟩)) | (with_reducible exact Calls.quiet_of_same ((C2.out _).mono fun _ _ h => ⟨h.1, h.2.symm⟩))))
  go_wp2
  refine bodyPost_ret (v := .tuple #[.int .i64 x, .int .i64 y]) ?_ rfl ⟨by rw [HE.out], Keeps.drewN w nq⟩
  first | rfl | (simp [results, Tryz.results126, go_sem]; done)
theorem meeting_some (w : World) : Calls Tryz.prog 98 #[.string ⟨#[115, 111, 109, 101]⟩] w fun e w' => e = .returned (.iface 158 (.agg #[.slice (some ⟨w.heap.size, 0, none⟩) 2 2, .func (.func 121) #[] #[]])) ∧ w' = w.alloc (.cells #[.int .i64 0, .int .i64 1] 3) := by
  go_enter Tryz.func98, Tryz.ntmps98
  go_wp2
  go_ret
  exact ⟨rfl, rfl⟩
set_option maxHeartbeats 4000000 in
theorem iRulesOf_some (w : World) : Calls Tryz.prog 67 #[.string ⟨#[115, 111, 109, 101]⟩] w (RulesTold w 2 [0, 1] (lsII [[0, 1], [1, 1]]) (lsII [[0, 1], [1, 1]])) := by
  have HB1 := Lib.hid ((Blk.new w #[.slice none 0 0, .slice none 0 0, .slice none 0 0] 54).keeps (Keeps.alloc _ (.cells #[.int .i64 0, .int .i64 1] 3)))
  have HI1 : Hid (Ints ((w.alloc (.cells #[.slice none 0 0, .slice none 0 0, .slice none 0 0] 54)).alloc (.cells #[.int .i64 0, .int .i64 1] 3)) (some ⟨w.heap.size + 1, 0, none⟩) 2 (lsI [0, 1])) := Lib.hid (by
    have h := ints_of (l := [0, 1]) (Blk.new (w.alloc (.cells #[.slice none 0 0, .slice none 0 0, .slice none 0 0] 54)) #[.int .i64 0, .int .i64 1] 3)
    rw [World.size_alloc] at h
    exact h)
  have HK1 := Lib.hid ((Keeps.alloc w (.cells #[.slice none 0 0, .slice none 0 0, .slice none 0 0] 54)).step (Keeps.alloc _ (.cells #[.int .i64 0, .int .i64 1] 3)))
  have HZ1 : Hid (((w.alloc (.cells #[.slice none 0 0, .slice none 0 0, .slice none 0 0] 54)).alloc (.cells #[.int .i64 0, .int .i64 1] 3)).heap.size = w.heap.size + 2) := Lib.hid (by simp)
  go_enter Tryz.func67, Tryz.ntmps67
  go_wp2_with fail
  refine (meeting_some _).mono ?_
  rintro e w1 ⟨rfl, rfl⟩
  rw [World.size_alloc]
  generalize ((w.alloc (.cells #[.slice none 0 0, .slice none 0 0, .slice none 0 0] 54)).alloc (.cells #[.int .i64 0, .int .i64 1] 3)) = w2 at *
  go_wp2_with fail
  refine (rulesA_any 121 (some ⟨w.heap.size + 1, 0, none⟩) 2 2 (lsII [[0, 1], [1, 1]]) (lsII [[0, 1], [1, 1]]) w2 (by omega) (by omega) (fun d a b W hb h1 h2 => both_some d a b 2 _ h1 h2 W hb)).mono ?_
  rintro e w3 ⟨A, B, R1, R2, rfl, ht1, ht2, hc1, hc2, hk3⟩
  have HB3 := Lib.hid (HB1.out.keeps hk3)
  have HC1 : Hid (Crn w3 (w.heap.size + 2) A 2 R1) := Lib.hid (by rw [← HZ1.out]; exact hc1)
  have HC2 : Hid (Crn w3 (w.heap.size + 2) B 2 R2) := Lib.hid (by rw [← HZ1.out]; exact hc2)
  have HI3 := Lib.hid (HI1.out.keeps hk3)
  have HK3 := Lib.hid (HK1.out.step hk3)
  have HT := Lib.hid (And.intro ht1 ht2)
  have hwz := HB3.out.lt
  have e0 : w3.cell? ⟨w.heap.size, 0, none⟩ = some (.slice none 0 0) := HB3.out.cell 0
  have e1 : w3.cell? ⟨w.heap.size, 1, none⟩ = some (.slice none 0 0) := HB3.out.cell 1
  have e2 : w3.cell? ⟨w.heap.size, 2, none⟩ = some (.slice none 0 0) := HB3.out.cell 2
  have f0 := HB3.out.frozen 0
  have f1 := HB3.out.frozen 1
  have f2 := HB3.out.frozen 2
  clear hc1 hc2 hk3 ht1 ht2 HB1 HI1 HK1 HZ1
  go_wp2
  have y1 := ((HB3.out.set 0 (.slice (some ⟨w.heap.size + 1, 0, none⟩) 2 2)).set 1 (.slice A 2 2)).set 2 (.slice B 2 2)
  have c0 : (((w3.setCell ⟨w.heap.size, 0, none⟩ (.slice (some ⟨w.heap.size + 1, 0, none⟩) 2 2)).setCell ⟨w.heap.size, 1, none⟩ (.slice A 2 2)).setCell ⟨w.heap.size, 2, none⟩ (.slice B 2 2)).cell? ⟨w.heap.size, 0, none⟩ = some (.slice (some ⟨w.heap.size + 1, 0, none⟩) 2 2) := y1.cell 0
  have c1 : (((w3.setCell ⟨w.heap.size, 0, none⟩ (.slice (some ⟨w.heap.size + 1, 0, none⟩) 2 2)).setCell ⟨w.heap.size, 1, none⟩ (.slice A 2 2)).setCell ⟨w.heap.size, 2, none⟩ (.slice B 2 2)).cell? ⟨w.heap.size, 1, none⟩ = some (.slice A 2 2) := y1.cell 1
  have c2 : (((w3.setCell ⟨w.heap.size, 0, none⟩ (.slice (some ⟨w.heap.size + 1, 0, none⟩) 2 2)).setCell ⟨w.heap.size, 1, none⟩ (.slice A 2 2)).setCell ⟨w.heap.size, 2, none⟩ (.slice B 2 2)).cell? ⟨w.heap.size, 2, none⟩ = some (.slice B 2 2) := y1.cell 2
  have HA9 := Lib.hid (((HC1.out.low (r := w.heap.size) (by omega) 0 (.slice (some ⟨w.heap.size + 1, 0, none⟩) 2 2)).low (r := w.heap.size) (by omega) 1 (.slice A 2 2)).low (r := w.heap.size) (by omega) 2 (.slice B 2 2))
  have HB9 := Lib.hid (((HC2.out.low (r := w.heap.size) (by omega) 0 (.slice (some ⟨w.heap.size + 1, 0, none⟩) 2 2)).low (r := w.heap.size) (by omega) 1 (.slice A 2 2)).low (r := w.heap.size) (by omega) 2 (.slice B 2 2))
  have HK9 := Lib.hid (((HK3.out.setCell (p := ⟨w.heap.size, 0, none⟩) (Nat.le_refl _) (.slice (some ⟨w.heap.size + 1, 0, none⟩) 2 2)).setCell (p := ⟨w.heap.size, 1, none⟩) (Nat.le_refl _) (.slice A 2 2)).setCell (p := ⟨w.heap.size, 2, none⟩) (Nat.le_refl _) (.slice B 2 2))
  have HI9 := Lib.hid (((HI3.out.other (r := w.heap.size) (by omega) 0 (.slice (some ⟨w.heap.size + 1, 0, none⟩) 2 2)).other (r := w.heap.size) (by omega) 1 (.slice A 2 2)).other (r := w.heap.size) (by omega) 2 (.slice B 2 2))
  clear y1
  generalize (((w3.setCell ⟨w.heap.size, 0, none⟩ (.slice (some ⟨w.heap.size + 1, 0, none⟩) 2 2)).setCell ⟨w.heap.size, 1, none⟩ (.slice A 2 2)).setCell ⟨w.heap.size, 2, none⟩ (.slice B 2 2)) = W at *
  have key : ∀ a : Act, a.tmps[2]? = some (.pointer (some ⟨w.heap.size, 0, none⟩)) → a.tmps[3]? = some (.bool true) → a.defers = [] → bodyPost Tryz.prog Tryz.f67 (RulesTold w 2 [0, 1] (lsII [[0, 1], [1, 1]]) (lsII [[0, 1], [1, 1]])) Exit.ret a W := fun a h2 h3 hd => by
    refine bodyPost_ret (told_results h2 h3 c0 c1 c2) hd ⟨some ⟨w.heap.size + 1, 0, none⟩, A, B, R1, R2, rfl, HT.out.1, HT.out.2, HI9.out, HA9.out.mono' (by omega), HB9.out.mono' (by omega), HK9.out⟩
  exact key _ rfl rfl rfl
theorem meeting_three (w : World) : Calls Tryz.prog 98 #[.string ⟨#[116, 104, 114, 101, 101]⟩] w fun e w' => e = .returned (.iface 160 (.agg #[.slice (some ⟨w.heap.size, 0, none⟩) 4 4, .func (.func 122) #[] #[]])) ∧ w' = w.alloc (.cells #[.int .i64 0, .int .i64 0, .int .i64 0, .int .i64 1] 3) := by
  go_enter Tryz.func98, Tryz.ntmps98
  go_wp2
  go_ret
  exact ⟨rfl, rfl⟩
set_option maxHeartbeats 4000000 in
theorem iRulesOf_three (w : World) : Calls Tryz.prog 67 #[.string ⟨#[116, 104, 114, 101, 101]⟩] w (RulesTold w 4 [0, 0, 0, 1] (lsII [[0, 1, 2, 3], [1, 2, 3, 3], [2, 3, 3, 3], [3, 3, 3, 3]]) (lsII [[0, 0, 0, 3], [0, 0, 3, 3], [0, 3, 3, 3], [3, 3, 3, 3]])) := by
  have HB1 := Lib.hid ((Blk.new w #[.slice none 0 0, .slice none 0 0, .slice none 0 0] 54).keeps (Keeps.alloc _ (.cells #[.int .i64 0, .int .i64 0, .int .i64 0, .int .i64 1] 3)))
  have HI1 : Hid (Ints ((w.alloc (.cells #[.slice none 0 0, .slice none 0 0, .slice none 0 0] 54)).alloc (.cells #[.int .i64 0, .int .i64 0, .int .i64 0, .int .i64 1] 3)) (some ⟨w.heap.size + 1, 0, none⟩) 4 (lsI [0, 0, 0, 1])) := Lib.hid (by
    have h := ints_of (l := [0, 0, 0, 1]) (Blk.new (w.alloc (.cells #[.slice none 0 0, .slice none 0 0, .slice none 0 0] 54)) #[.int .i64 0, .int .i64 0, .int .i64 0, .int .i64 1] 3)
    rw [World.size_alloc] at h
    exact h)
  have HK1 := Lib.hid ((Keeps.alloc w (.cells #[.slice none 0 0, .slice none 0 0, .slice none 0 0] 54)).step (Keeps.alloc _ (.cells #[.int .i64 0, .int .i64 0, .int .i64 0, .int .i64 1] 3)))
  have HZ1 : Hid (((w.alloc (.cells #[.slice none 0 0, .slice none 0 0, .slice none 0 0] 54)).alloc (.cells #[.int .i64 0, .int .i64 0, .int .i64 0, .int .i64 1] 3)).heap.size = w.heap.size + 2) := Lib.hid (by simp)
  go_enter Tryz.func67, Tryz.ntmps67
  go_wp2_with fail
  refine (meeting_three _).mono ?_
  rintro e w1 ⟨rfl, rfl⟩
  rw [World.size_alloc]
  generalize ((w.alloc (.cells #[.slice none 0 0, .slice none 0 0, .slice none 0 0] 54)).alloc (.cells #[.int .i64 0, .int .i64 0, .int .i64 0, .int .i64 1] 3)) = w2 at *
  go_wp2_with fail
  refine (rulesT_any 122 (some ⟨w.heap.size + 1, 0, none⟩) 4 4 (lsII [[0, 1, 2, 3], [1, 2, 3, 3], [2, 3, 3, 3], [3, 3, 3, 3]]) (lsII [[0, 0, 0, 3], [0, 0, 3, 3], [0, 3, 3, 3], [3, 3, 3, 3]]) w2 (by omega) (by omega) (fun _ _ => rfl) (fun a b W h1 h2 => (meet2_any a b h1 h2 W).mono (fun e w9 h => ⟨h.1, by rw [← h.2]; exact Keeps.refl _⟩))).mono ?_
  rintro e w3 ⟨A, B, R1, R2, rfl, ht1, ht2, hc1, hc2, hk3⟩
  have HB3 := Lib.hid (HB1.out.keeps hk3)
  have HC1 : Hid (Crn w3 (w.heap.size + 2) A 4 R1) := Lib.hid (by rw [← HZ1.out]; exact hc1)
  have HC2 : Hid (Crn w3 (w.heap.size + 2) B 4 R2) := Lib.hid (by rw [← HZ1.out]; exact hc2)
  have HI3 := Lib.hid (HI1.out.keeps hk3)
  have HK3 := Lib.hid (HK1.out.step hk3)
  have HT := Lib.hid (And.intro ht1 ht2)
  have hwz := HB3.out.lt
  have e0 : w3.cell? ⟨w.heap.size, 0, none⟩ = some (.slice none 0 0) := HB3.out.cell 0
  have e1 : w3.cell? ⟨w.heap.size, 1, none⟩ = some (.slice none 0 0) := HB3.out.cell 1
  have e2 : w3.cell? ⟨w.heap.size, 2, none⟩ = some (.slice none 0 0) := HB3.out.cell 2
  have f0 := HB3.out.frozen 0
  have f1 := HB3.out.frozen 1
  have f2 := HB3.out.frozen 2
  clear hc1 hc2 hk3 ht1 ht2 HB1 HI1 HK1 HZ1
  go_wp2
  have y1 := ((HB3.out.set 0 (.slice (some ⟨w.heap.size + 1, 0, none⟩) 4 4)).set 1 (.slice A 4 4)).set 2 (.slice B 4 4)
  have c0 : (((w3.setCell ⟨w.heap.size, 0, none⟩ (.slice (some ⟨w.heap.size + 1, 0, none⟩) 4 4)).setCell ⟨w.heap.size, 1, none⟩ (.slice A 4 4)).setCell ⟨w.heap.size, 2, none⟩ (.slice B 4 4)).cell? ⟨w.heap.size, 0, none⟩ = some (.slice (some ⟨w.heap.size + 1, 0, none⟩) 4 4) := y1.cell 0
  have c1 : (((w3.setCell ⟨w.heap.size, 0, none⟩ (.slice (some ⟨w.heap.size + 1, 0, none⟩) 4 4)).setCell ⟨w.heap.size, 1, none⟩ (.slice A 4 4)).setCell ⟨w.heap.size, 2, none⟩ (.slice B 4 4)).cell? ⟨w.heap.size, 1, none⟩ = some (.slice A 4 4) := y1.cell 1
  have c2 : (((w3.setCell ⟨w.heap.size, 0, none⟩ (.slice (some ⟨w.heap.size + 1, 0, none⟩) 4 4)).setCell ⟨w.heap.size, 1, none⟩ (.slice A 4 4)).setCell ⟨w.heap.size, 2, none⟩ (.slice B 4 4)).cell? ⟨w.heap.size, 2, none⟩ = some (.slice B 4 4) := y1.cell 2
  have HA9 := Lib.hid (((HC1.out.low (r := w.heap.size) (by omega) 0 (.slice (some ⟨w.heap.size + 1, 0, none⟩) 4 4)).low (r := w.heap.size) (by omega) 1 (.slice A 4 4)).low (r := w.heap.size) (by omega) 2 (.slice B 4 4))
  have HB9 := Lib.hid (((HC2.out.low (r := w.heap.size) (by omega) 0 (.slice (some ⟨w.heap.size + 1, 0, none⟩) 4 4)).low (r := w.heap.size) (by omega) 1 (.slice A 4 4)).low (r := w.heap.size) (by omega) 2 (.slice B 4 4))
  have HK9 := Lib.hid (((HK3.out.setCell (p := ⟨w.heap.size, 0, none⟩) (Nat.le_refl _) (.slice (some ⟨w.heap.size + 1, 0, none⟩) 4 4)).setCell (p := ⟨w.heap.size, 1, none⟩) (Nat.le_refl _) (.slice A 4 4)).setCell (p := ⟨w.heap.size, 2, none⟩) (Nat.le_refl _) (.slice B 4 4))
  have HI9 := Lib.hid (((HI3.out.other (r := w.heap.size) (by omega) 0 (.slice (some ⟨w.heap.size + 1, 0, none⟩) 4 4)).other (r := w.heap.size) (by omega) 1 (.slice A 4 4)).other (r := w.heap.size) (by omega) 2 (.slice B 4 4))
  clear y1
  generalize (((w3.setCell ⟨w.heap.size, 0, none⟩ (.slice (some ⟨w.heap.size + 1, 0, none⟩) 4 4)).setCell ⟨w.heap.size, 1, none⟩ (.slice A 4 4)).setCell ⟨w.heap.size, 2, none⟩ (.slice B 4 4)) = W at *
  have key : ∀ a : Act, a.tmps[2]? = some (.pointer (some ⟨w.heap.size, 0, none⟩)) → a.tmps[3]? = some (.bool true) → a.defers = [] → bodyPost Tryz.prog Tryz.f67 (RulesTold w 4 [0, 0, 0, 1] (lsII [[0, 1, 2, 3], [1, 2, 3, 3], [2, 3, 3, 3], [3, 3, 3, 3]]) (lsII [[0, 0, 0, 3], [0, 0, 3, 3], [0, 3, 3, 3], [3, 3, 3, 3]])) Exit.ret a W := fun a h2 h3 hd => by
    refine bodyPost_ret (told_results h2 h3 c0 c1 c2) hd ⟨some ⟨w.heap.size + 1, 0, none⟩, A, B, R1, R2, rfl, HT.out.1, HT.out.2, HI9.out, HA9.out.mono' (by omega), HB9.out.mono' (by omega), HK9.out⟩
  exact key _ rfl rfl rfl
theorem both_most (d a b c : Nat) (S : Option Addr) (ha : a < 4) (hb : b < 4) (w : World) (hB : Blk w d 158 #[.slice S 4 c, .func (.func 123) #[] #[]]) :
    Calls Tryz.prog 126 #[.int .i64 a, .int .i64 b, .pointer (some ⟨d, 0, none⟩)] w fun e w' => e = .returned (.tuple #[.int .i64 (lsII [[0, 2, 0, 0], [2, 1, 1, 1], [2, 3, 2, 2], [2, 3, 2, 3]] a b), .int .i64 (lsII [[0, 2, 2, 2], [2, 1, 3, 3], [0, 1, 2, 2], [0, 1, 2, 3]] a b)]) ∧ Keeps w w' := by
  have h1 : w.cell? ⟨d, 1, none⟩ = some (.func (.func 123) #[] #[]) := hB.cell 1
  have HE : Hid (lsII [[0, 2, 0, 0], [2, 1, 1, 1], [2, 3, 2, 2], [2, 3, 2, 3]] b a = lsII [[0, 2, 2, 2], [2, 1, 3, 3], [0, 1, 2, 2], [0, 1, 2, 3]] a b) := Lib.hid (by
    rcases below4 ha with rfl | rfl | rfl | rfl <;> rcases below4 hb with rfl | rfl | rfl | rfl <;> rfl)
  have C1 := Lib.hid (fun W => meet3_any a b ha hb W)
  have C2 := Lib.hid (fun W => meet3_any b a hb ha W)
  clear hB
  generalize lsII [[0, 2, 0, 0], [2, 1, 1, 1], [2, 3, 2, 2], [2, 3, 2, 3]] a b = x at *
  generalize lsII [[0, 2, 0, 0], [2, 1, 1, 1], [2, 3, 2, 2], [2, 3, 2, 3]] b a = y at *
  go_enter Tryz.func126, Tryz.ntmps126
  go_wp2_with fail
  go_quiet (first | (go_at_call 123; first | (with_reducible exact Calls.quiet_of_same ((C1.out _).mono fun _ _ h => ⟨h.1, h.2.symm⟩)) | (with_reducible exact Calls.quiet_of_same ((C2.out _).mono fun _ _ h => ⟨h.1, h.2.symm⟩))))
  go_wp2
  refine bodyPost_ret (v := .tuple #[.int .i64 x, .int .i64 y]) ?_ rfl ⟨by rw [HE.out], Keeps.drewN w nq⟩
  first | rfl | (simp [results, Tryz.results126, go_sem]; done)
theorem meeting_most (w : World) : Calls Tryz.prog 98 #[.string ⟨#[109, 111, 115, 116]⟩] w fun e w' => e = .returned (.iface 158 (.agg #[.slice (some ⟨w.heap.size, 0, none⟩) 4 4, .func (.func 123) #[] #[]])) ∧ w' = w.alloc (.cells #[.int .i64 0, .int .i64 1, .int .i64 0, .int .i64 1] 3) := by
  go_enter Tryz.func98, Tryz.ntmps98
  go_wp2
  go_ret
  exact ⟨rfl, rfl⟩
set_option maxHeartbeats 4000000 in
theorem iRulesOf_most (w : World) : Calls Tryz.prog 67 #[.string ⟨#[109, 111, 115, 116]⟩] w (RulesTold w 4 [0, 1, 0, 1] (lsII [[0, 2, 0, 0], [2, 1, 1, 1], [2, 3, 2, 2], [2, 3, 2, 3]]) (lsII [[0, 2, 2, 2], [2, 1, 3, 3], [0, 1, 2, 2], [0, 1, 2, 3]])) := by
  have HB1 := Lib.hid ((Blk.new w #[.slice none 0 0, .slice none 0 0, .slice none 0 0] 54).keeps (Keeps.alloc _ (.cells #[.int .i64 0, .int .i64 1, .int .i64 0, .int .i64 1] 3)))
  have HI1 : Hid (Ints ((w.alloc (.cells #[.slice none 0 0, .slice none 0 0, .slice none 0 0] 54)).alloc (.cells #[.int .i64 0, .int .i64 1, .int .i64 0, .int .i64 1] 3)) (some ⟨w.heap.size + 1, 0, none⟩) 4 (lsI [0, 1, 0, 1])) := Lib.hid (by
    have h := ints_of (l := [0, 1, 0, 1]) (Blk.new (w.alloc (.cells #[.slice none 0 0, .slice none 0 0, .slice none 0 0] 54)) #[.int .i64 0, .int .i64 1, .int .i64 0, .int .i64 1] 3)
    rw [World.size_alloc] at h
    exact h)
  have HK1 := Lib.hid ((Keeps.alloc w (.cells #[.slice none 0 0, .slice none 0 0, .slice none 0 0] 54)).step (Keeps.alloc _ (.cells #[.int .i64 0, .int .i64 1, .int .i64 0, .int .i64 1] 3)))
  have HZ1 : Hid (((w.alloc (.cells #[.slice none 0 0, .slice none 0 0, .slice none 0 0] 54)).alloc (.cells #[.int .i64 0, .int .i64 1, .int .i64 0, .int .i64 1] 3)).heap.size = w.heap.size + 2) := Lib.hid (by simp)
  go_enter Tryz.func67, Tryz.ntmps67
  go_wp2_with fail
  refine (meeting_most _).mono ?_
  rintro e w1 ⟨rfl, rfl⟩
  rw [World.size_alloc]
  generalize ((w.alloc (.cells #[.slice none 0 0, .slice none 0 0, .slice none 0 0] 54)).alloc (.cells #[.int .i64 0, .int .i64 1, .int .i64 0, .int .i64 1] 3)) = w2 at *
  go_wp2_with fail
  refine (rulesA_any 123 (some ⟨w.heap.size + 1, 0, none⟩) 4 4 (lsII [[0, 2, 0, 0], [2, 1, 1, 1], [2, 3, 2, 2], [2, 3, 2, 3]]) (lsII [[0, 2, 2, 2], [2, 1, 3, 3], [0, 1, 2, 2], [0, 1, 2, 3]]) w2 (by omega) (by omega) (fun d a b W hb h1 h2 => both_most d a b 4 _ h1 h2 W hb)).mono ?_
  rintro e w3 ⟨A, B, R1, R2, rfl, ht1, ht2, hc1, hc2, hk3⟩
  have HB3 := Lib.hid (HB1.out.keeps hk3)
  have HC1 : Hid (Crn w3 (w.heap.size + 2) A 4 R1) := Lib.hid (by rw [← HZ1.out]; exact hc1)
  have HC2 : Hid (Crn w3 (w.heap.size + 2) B 4 R2) := Lib.hid (by rw [← HZ1.out]; exact hc2)
  have HI3 := Lib.hid (HI1.out.keeps hk3)
  have HK3 := Lib.hid (HK1.out.step hk3)
  have HT := Lib.hid (And.intro ht1 ht2)
  have hwz := HB3.out.lt
  have e0 : w3.cell? ⟨w.heap.size, 0, none⟩ = some (.slice none 0 0) := HB3.out.cell 0
  have e1 : w3.cell? ⟨w.heap.size, 1, none⟩ = some (.slice none 0 0) := HB3.out.cell 1
  have e2 : w3.cell? ⟨w.heap.size, 2, none⟩ = some (.slice none 0 0) := HB3.out.cell 2
  have f0 := HB3.out.frozen 0
  have f1 := HB3.out.frozen 1
  have f2 := HB3.out.frozen 2
  clear hc1 hc2 hk3 ht1 ht2 HB1 HI1 HK1 HZ1
  go_wp2
  have y1 := ((HB3.out.set 0 (.slice (some ⟨w.heap.size + 1, 0, none⟩) 4 4)).set 1 (.slice A 4 4)).set 2 (.slice B 4 4)
  have c0 : (((w3.setCell ⟨w.heap.size, 0, none⟩ (.slice (some ⟨w.heap.size + 1, 0, none⟩) 4 4)).setCell ⟨w.heap.size, 1, none⟩ (.slice A 4 4)).setCell ⟨w.heap.size, 2, none⟩ (.slice B 4 4)).cell? ⟨w.heap.size, 0, none⟩ = some (.slice (some ⟨w.heap.size + 1, 0, none⟩) 4 4) := y1.cell 0
  have c1 : (((w3.setCell ⟨w.heap.size, 0, none⟩ (.slice (some ⟨w.heap.size + 1, 0, none⟩) 4 4)).setCell ⟨w.heap.size, 1, none⟩ (.slice A 4 4)).setCell ⟨w.heap.size, 2, none⟩ (.slice B 4 4)).cell? ⟨w.heap.size, 1, none⟩ = some (.slice A 4 4) := y1.cell 1
  have c2 : (((w3.setCell ⟨w.heap.size, 0, none⟩ (.slice (some ⟨w.heap.size + 1, 0, none⟩) 4 4)).setCell ⟨w.heap.size, 1, none⟩ (.slice A 4 4)).setCell ⟨w.heap.size, 2, none⟩ (.slice B 4 4)).cell? ⟨w.heap.size, 2, none⟩ = some (.slice B 4 4) := y1.cell 2
  have HA9 := Lib.hid (((HC1.out.low (r := w.heap.size) (by omega) 0 (.slice (some ⟨w.heap.size + 1, 0, none⟩) 4 4)).low (r := w.heap.size) (by omega) 1 (.slice A 4 4)).low (r := w.heap.size) (by omega) 2 (.slice B 4 4))
  have HB9 := Lib.hid (((HC2.out.low (r := w.heap.size) (by omega) 0 (.slice (some ⟨w.heap.size + 1, 0, none⟩) 4 4)).low (r := w.heap.size) (by omega) 1 (.slice A 4 4)).low (r := w.heap.size) (by omega) 2 (.slice B 4 4))
  have HK9 := Lib.hid (((HK3.out.setCell (p := ⟨w.heap.size, 0, none⟩) (Nat.le_refl _) (.slice (some ⟨w.heap.size + 1, 0, none⟩) 4 4)).setCell (p := ⟨w.heap.size, 1, none⟩) (Nat.le_refl _) (.slice A 4 4)).setCell (p := ⟨w.heap.size, 2, none⟩) (Nat.le_refl _) (.slice B 4 4))
  have HI9 := Lib.hid (((HI3.out.other (r := w.heap.size) (by omega) 0 (.slice (some ⟨w.heap.size + 1, 0, none⟩) 4 4)).other (r := w.heap.size) (by omega) 1 (.slice A 4 4)).other (r := w.heap.size) (by omega) 2 (.slice B 4 4))
  clear y1
  generalize (((w3.setCell ⟨w.heap.size, 0, none⟩ (.slice (some ⟨w.heap.size + 1, 0, none⟩) 4 4)).setCell ⟨w.heap.size, 1, none⟩ (.slice A 4 4)).setCell ⟨w.heap.size, 2, none⟩ (.slice B 4 4)) = W at *
  have key : ∀ a : Act, a.tmps[2]? = some (.pointer (some ⟨w.heap.size, 0, none⟩)) → a.tmps[3]? = some (.bool true) → a.defers = [] → bodyPost Tryz.prog Tryz.f67 (RulesTold w 4 [0, 1, 0, 1] (lsII [[0, 2, 0, 0], [2, 1, 1, 1], [2, 3, 2, 2], [2, 3, 2, 3]]) (lsII [[0, 2, 2, 2], [2, 1, 3, 3], [0, 1, 2, 2], [0, 1, 2, 3]])) Exit.ret a W := fun a h2 h3 hd => by
    refine bodyPost_ret (told_results h2 h3 c0 c1 c2) hd ⟨some ⟨w.heap.size + 1, 0, none⟩, A, B, R1, R2, rfl, HT.out.1, HT.out.2, HI9.out, HA9.out.mono' (by omega), HB9.out.mono' (by omega), HK9.out⟩
  exact key _ rfl rfl rfl
theorem meeting_odd (w : World) : Calls Tryz.prog 98 #[.string ⟨#[111, 100, 100]⟩] w fun e w' => e = .returned (.iface 160 (.agg #[.slice (some ⟨w.heap.size, 0, none⟩) 4 4, .func (.func 125) #[] #[]])) ∧ w' = w.alloc (.cells #[.int .i64 0, .int .i64 1, .int .i64 0, .int .i64 1] 3) := by
  go_enter Tryz.func98, Tryz.ntmps98
  go_wp2
  go_ret
  exact ⟨rfl, rfl⟩
set_option maxHeartbeats 4000000 in
theorem iRulesOf_odd (w : World) : Calls Tryz.prog 67 #[.string ⟨#[111, 100, 100]⟩] w (RulesTold w 4 [0, 1, 0, 1] (lsII [[0, 1, 0, 0], [1, 0, 1, 1], [2, 3, 2, 2], [2, 3, 3, 3]]) (lsII [[2, 3, 2, 2], [3, 2, 3, 3], [0, 1, 2, 3], [0, 1, 2, 3]])) := by
  have HB1 := Lib.hid ((Blk.new w #[.slice none 0 0, .slice none 0 0, .slice none 0 0] 54).keeps (Keeps.alloc _ (.cells #[.int .i64 0, .int .i64 1, .int .i64 0, .int .i64 1] 3)))
  have HI1 : Hid (Ints ((w.alloc (.cells #[.slice none 0 0, .slice none 0 0, .slice none 0 0] 54)).alloc (.cells #[.int .i64 0, .int .i64 1, .int .i64 0, .int .i64 1] 3)) (some ⟨w.heap.size + 1, 0, none⟩) 4 (lsI [0, 1, 0, 1])) := Lib.hid (by
    have h := ints_of (l := [0, 1, 0, 1]) (Blk.new (w.alloc (.cells #[.slice none 0 0, .slice none 0 0, .slice none 0 0] 54)) #[.int .i64 0, .int .i64 1, .int .i64 0, .int .i64 1] 3)
    rw [World.size_alloc] at h
    exact h)
  have HK1 := Lib.hid ((Keeps.alloc w (.cells #[.slice none 0 0, .slice none 0 0, .slice none 0 0] 54)).step (Keeps.alloc _ (.cells #[.int .i64 0, .int .i64 1, .int .i64 0, .int .i64 1] 3)))
  have HZ1 : Hid (((w.alloc (.cells #[.slice none 0 0, .slice none 0 0, .slice none 0 0] 54)).alloc (.cells #[.int .i64 0, .int .i64 1, .int .i64 0, .int .i64 1] 3)).heap.size = w.heap.size + 2) := Lib.hid (by simp)
  go_enter Tryz.func67, Tryz.ntmps67
  go_wp2_with fail
  refine (meeting_odd _).mono ?_
  rintro e w1 ⟨rfl, rfl⟩
  rw [World.size_alloc]
  generalize ((w.alloc (.cells #[.slice none 0 0, .slice none 0 0, .slice none 0 0] 54)).alloc (.cells #[.int .i64 0, .int .i64 1, .int .i64 0, .int .i64 1] 3)) = w2 at *
  go_wp2_with fail
  refine (rulesT_any 125 (some ⟨w.heap.size + 1, 0, none⟩) 4 4 (lsII [[0, 1, 0, 0], [1, 0, 1, 1], [2, 3, 2, 2], [2, 3, 3, 3]]) (lsII [[2, 3, 2, 2], [3, 2, 3, 3], [0, 1, 2, 3], [0, 1, 2, 3]]) w2 (by omega) (by omega) (fun _ _ => rfl) (fun a b W h1 h2 => (meet4_any a b h1 h2 W).mono (fun e w9 h => ⟨h.1, by rw [← h.2]; exact Keeps.refl _⟩))).mono ?_
  rintro e w3 ⟨A, B, R1, R2, rfl, ht1, ht2, hc1, hc2, hk3⟩
  have HB3 := Lib.hid (HB1.out.keeps hk3)
  have HC1 : Hid (Crn w3 (w.heap.size + 2) A 4 R1) := Lib.hid (by rw [← HZ1.out]; exact hc1)
  have HC2 : Hid (Crn w3 (w.heap.size + 2) B 4 R2) := Lib.hid (by rw [← HZ1.out]; exact hc2)
  have HI3 := Lib.hid (HI1.out.keeps hk3)
  have HK3 := Lib.hid (HK1.out.step hk3)
  have HT := Lib.hid (And.intro ht1 ht2)
  have hwz := HB3.out.lt
  have e0 : w3.cell? ⟨w.heap.size, 0, none⟩ = some (.slice none 0 0) := HB3.out.cell 0
  have e1 : w3.cell? ⟨w.heap.size, 1, none⟩ = some (.slice none 0 0) := HB3.out.cell 1
  have e2 : w3.cell? ⟨w.heap.size, 2, none⟩ = some (.slice none 0 0) := HB3.out.cell 2
  have f0 := HB3.out.frozen 0
  have f1 := HB3.out.frozen 1
  have f2 := HB3.out.frozen 2
  clear hc1 hc2 hk3 ht1 ht2 HB1 HI1 HK1 HZ1
  go_wp2
  have y1 := ((HB3.out.set 0 (.slice (some ⟨w.heap.size + 1, 0, none⟩) 4 4)).set 1 (.slice A 4 4)).set 2 (.slice B 4 4)
  have c0 : (((w3.setCell ⟨w.heap.size, 0, none⟩ (.slice (some ⟨w.heap.size + 1, 0, none⟩) 4 4)).setCell ⟨w.heap.size, 1, none⟩ (.slice A 4 4)).setCell ⟨w.heap.size, 2, none⟩ (.slice B 4 4)).cell? ⟨w.heap.size, 0, none⟩ = some (.slice (some ⟨w.heap.size + 1, 0, none⟩) 4 4) := y1.cell 0
  have c1 : (((w3.setCell ⟨w.heap.size, 0, none⟩ (.slice (some ⟨w.heap.size + 1, 0, none⟩) 4 4)).setCell ⟨w.heap.size, 1, none⟩ (.slice A 4 4)).setCell ⟨w.heap.size, 2, none⟩ (.slice B 4 4)).cell? ⟨w.heap.size, 1, none⟩ = some (.slice A 4 4) := y1.cell 1
  have c2 : (((w3.setCell ⟨w.heap.size, 0, none⟩ (.slice (some ⟨w.heap.size + 1, 0, none⟩) 4 4)).setCell ⟨w.heap.size, 1, none⟩ (.slice A 4 4)).setCell ⟨w.heap.size, 2, none⟩ (.slice B 4 4)).cell? ⟨w.heap.size, 2, none⟩ = some (.slice B 4 4) := y1.cell 2
  have HA9 := Lib.hid (((HC1.out.low (r := w.heap.size) (by omega) 0 (.slice (some ⟨w.heap.size + 1, 0, none⟩) 4 4)).low (r := w.heap.size) (by omega) 1 (.slice A 4 4)).low (r := w.heap.size) (by omega) 2 (.slice B 4 4))
  have HB9 := Lib.hid (((HC2.out.low (r := w.heap.size) (by omega) 0 (.slice (some ⟨w.heap.size + 1, 0, none⟩) 4 4)).low (r := w.heap.size) (by omega) 1 (.slice A 4 4)).low (r := w.heap.size) (by omega) 2 (.slice B 4 4))
  have HK9 := Lib.hid (((HK3.out.setCell (p := ⟨w.heap.size, 0, none⟩) (Nat.le_refl _) (.slice (some ⟨w.heap.size + 1, 0, none⟩) 4 4)).setCell (p := ⟨w.heap.size, 1, none⟩) (Nat.le_refl _) (.slice A 4 4)).setCell (p := ⟨w.heap.size, 2, none⟩) (Nat.le_refl _) (.slice B 4 4))
  have HI9 := Lib.hid (((HI3.out.other (r := w.heap.size) (by omega) 0 (.slice (some ⟨w.heap.size + 1, 0, none⟩) 4 4)).other (r := w.heap.size) (by omega) 1 (.slice A 4 4)).other (r := w.heap.size) (by omega) 2 (.slice B 4 4))
  clear y1
  generalize (((w3.setCell ⟨w.heap.size, 0, none⟩ (.slice (some ⟨w.heap.size + 1, 0, none⟩) 4 4)).setCell ⟨w.heap.size, 1, none⟩ (.slice A 4 4)).setCell ⟨w.heap.size, 2, none⟩ (.slice B 4 4)) = W at *
  have key : ∀ a : Act, a.tmps[2]? = some (.pointer (some ⟨w.heap.size, 0, none⟩)) → a.tmps[3]? = some (.bool true) → a.defers = [] → bodyPost Tryz.prog Tryz.f67 (RulesTold w 4 [0, 1, 0, 1] (lsII [[0, 1, 0, 0], [1, 0, 1, 1], [2, 3, 2, 2], [2, 3, 3, 3]]) (lsII [[2, 3, 2, 2], [3, 2, 3, 3], [0, 1, 2, 3], [0, 1, 2, 3]])) Exit.ret a W := fun a h2 h3 hd => by
    refine bodyPost_ret (told_results h2 h3 c0 c1 c2) hd ⟨some ⟨w.heap.size + 1, 0, none⟩, A, B, R1, R2, rfl, HT.out.1, HT.out.2, HI9.out, HA9.out.mono' (by omega), HB9.out.mono' (by omega), HK9.out⟩
  exact key _ rfl rfl rfl
end Go.Proofs.YtlniogfinofakaaGreatDoor
