/-
  The drawn rules: whatever the code is, rules of one to four kinds in new memory. Condition: at most a thousand picks so far.
-/
import Derived.Test.YtaejakejnllimaaRulSt
import Derived.Deep.RegionLaw
namespace Go.Proofs.Ytaejakejnllimaa
set_option linter.unusedVariables false
set_option maxRecDepth 100000
open Go.RowKit

set_option maxHeartbeats 4000000 in
theorem someRules_any (b p : Nat) (w : World) (h : Rd w b p) (hp : p ≤ 1000) :
    Calls Try.prog 41 #[.pointer (some ⟨b, 0, none⟩)] w fun e w' => ∃ (v : Value) (S A B : Option Addr) (nS cS nA cA nB cB : Nat) (s : Nat → Int) (rA rB : Nat → Option Addr × Nat × Nat) (f g : Nat → Nat → Int) (q : Nat), e = .returned v ∧ RulDrawn b p w v w' S A B nS cS nA cA nB cB s rA rB f g q := by
  have HR := Lib.hid h
  have hbw := HR.out.lt
  clear h
  have HB0 := Lib.hid (Blk.new w #[.slice none 0 0, .slice none 0 0, .slice none 0 0] 26)
  have HR0 := Lib.hid (HR.out.gro (Keeps.alloc w (.cells #[.slice none 0 0, .slice none 0 0, .slice none 0 0] 26)))
  have HG0 : Hid (Gro b w (w.alloc (.cells #[.slice none 0 0, .slice none 0 0, .slice none 0 0] 26))) := Lib.hid (Gro.ofKeeps (Keeps.alloc w _))
  have HS0 : Hid (w.heap.size < (w.alloc (.cells #[.slice none 0 0, .slice none 0 0, .slice none 0 0] 26)).heap.size) := Lib.hid (by simp)
  go_enter Try.func41, Try.ntmps41
  go_wp2_with fail
  generalize w.alloc (.cells #[.slice none 0 0, .slice none 0 0, .slice none 0 0] 26) = w1 at *
  refine (pick_any b p 2 w1 HR0.out (by omega)).mono ?_
  rintro e w2 ⟨x, rfl, hx, hR2, hG2⟩
  have HB2 : Hid (Blk w2 w.heap.size 26 #[.slice none 0 0, .slice none 0 0, .slice none 0 0]) := Lib.hid (HB0.out.grown hG2 (by simp; omega))
  have HR2 := Lib.hid hR2
  have HG2 := Lib.hid (HG0.out.step hG2)
  have HS2 : Hid (w.heap.size < w2.heap.size) := Lib.hid (by have := HS0.out; have := hG2.size; omega)
  clear hR2 hG2 HB0 HR0 HG0 HS0
  by_cases hx0 : x = 0
  · subst hx0
    go_wp2_with fail
    refine (of_any b (p + 1) w2.heap.size 4 4 [Value.string ⟨#[115, 111, 109, 101]⟩, Value.string ⟨#[116, 104, 114, 101, 101]⟩, Value.string ⟨#[109, 111, 115, 116]⟩, Value.string ⟨#[111, 100, 100]⟩] _ (HR2.out.gro (Keeps.alloc _ _)) (by omega) (by omega) (by omega) rfl (fun i hi => ?_) (fun i hi => ?_) (by have := HS2.out; omega)).mono ?_
    · rw [(Blk.new w2 _ _).cell i]
      match i, hi with
      | 0, _ => rfl
      | 1, _ => rfl
      | 2, _ => rfl
      | 3, _ => rfl
    · rcases names_at i hi with e | e | e | e <;> exact ⟨_, e⟩
    rintro e w3 ⟨i, hi, rfl, hR3, hG3⟩
    have hv := names_at i hi
    generalize [Value.string ⟨#[115, 111, 109, 101]⟩, Value.string ⟨#[116, 104, 114, 101, 101]⟩, Value.string ⟨#[109, 111, 115, 116]⟩, Value.string ⟨#[111, 100, 100]⟩].getD i undef = v at *
    have hGa := (Gro.ofKeeps (Keeps.alloc w2 (.cells #[.string ⟨#[115, 111, 109, 101]⟩, .string ⟨#[116, 104, 114, 101, 101]⟩, .string ⟨#[109, 111, 115, 116]⟩, .string ⟨#[111, 100, 100]⟩] 9)) : Gro b w2 _).step hG3
    have HB3 : Hid (Blk w3 w.heap.size 26 #[.slice none 0 0, .slice none 0 0, .slice none 0 0]) := Lib.hid (HB2.out.grown hGa (by simp; omega))
    have HR3 := Lib.hid hR3
    have HG3 := Lib.hid (HG2.out.step hGa)
    have HS3 : Hid (w.heap.size < w3.heap.size) := Lib.hid (by have := HS2.out; have := hGa.size; omega)
    clear hR3 hG3 hGa HB2 HR2 HG2 HS2
    have CN := Lib.hid (named_any v w3 hv)
    clear hv
    go_wp2_with fail
    refine CN.out.mono ?_
    rintro e w4 ⟨S, A, B, n, s, rA, rB, f, g, rfl, hat, hn, hk4⟩
    have HAT := Lib.hid hat
    have HB4 : Hid (Blk w4 w.heap.size 26 #[.slice none 0 0, .slice none 0 0, .slice none 0 0]) := Lib.hid (HB3.out.keeps hk4)
    have HR4 := Lib.hid (HR3.out.gro hk4)
    have HG4 := Lib.hid (HG3.out.step (Gro.ofKeeps hk4))
    have HS4 := Lib.hid hk4.size
    have HN := Lib.hid hn
    have hz4 : w.heap.size < w4.heap.size := by have := HS3.out; have := HS4.out; omega
    have d0 : w4.cell? ⟨w.heap.size, 0, none⟩ = some (.slice none 0 0) := HB4.out.cell 0
    have d1 : w4.cell? ⟨w.heap.size, 1, none⟩ = some (.slice none 0 0) := HB4.out.cell 1
    have d2 : w4.cell? ⟨w.heap.size, 2, none⟩ = some (.slice none 0 0) := HB4.out.cell 2
    have f0 := HB4.out.frozen 0
    have f1 := HB4.out.frozen 1
    have f2 := HB4.out.frozen 2
    clear hat hk4 hn HB3 HR3 HG3 CN
    go_wp2
    have y1 := ((HB4.out.set 0 (.slice S n n)).set 1 (.slice A n n)).set 2 (.slice B n n)
    have y2 := y1.keeps (Keeps.alloc _ (.cells #[.slice S n n, .slice A n n, .slice B n n] 26))
    have c0 := y2.cell 0
    have c1 := y2.cell 1
    have c2 := y2.cell 2
    have hsm : Same w3.heap.size w4.heap.size w4 ((((w4.setCell ⟨w.heap.size, 0, none⟩ (.slice S n n)).setCell ⟨w.heap.size, 1, none⟩ (.slice A n n)).setCell ⟨w.heap.size, 2, none⟩ (.slice B n n)).alloc (.cells #[.slice S n n, .slice A n n, .slice B n n] 26)) := fun i h1 h2 => by
      have hne : i ≠ w.heap.size := by have := HS3.out; omega
      rw [(Keeps.alloc _ _).block i (by simp [World.setCell]; omega), Below.heap_setCell _ _ _ _ hne, Below.heap_setCell _ _ _ _ hne, Below.heap_setCell _ _ _ _ hne]
    have hgr : Gro b w ((((w4.setCell ⟨w.heap.size, 0, none⟩ (.slice S n n)).setCell ⟨w.heap.size, 1, none⟩ (.slice A n n)).setCell ⟨w.heap.size, 2, none⟩ (.slice B n n)).alloc (.cells #[.slice S n n, .slice A n n, .slice B n n] 26)) := (((HG4.out.setAbove (by omega) _).setAbove (by omega) _).setAbove (by omega) _).step (Gro.ofKeeps (Keeps.alloc _ _))
    have hrd := ((((HR4.out.set_other (d := w.heap.size) (o := 0) hbw (.slice S n n)).set_other (d := w.heap.size) (o := 1) hbw (.slice A n n)).set_other (d := w.heap.size) (o := 2) hbw (.slice B n n)).gro (Keeps.alloc _ (.cells #[.slice S n n, .slice A n n, .slice B n n] 26)))
    have hzz : w4.heap.size ≤ ((((w4.setCell ⟨w.heap.size, 0, none⟩ (.slice S n n)).setCell ⟨w.heap.size, 1, none⟩ (.slice A n n)).setCell ⟨w.heap.size, 2, none⟩ (.slice B n n)).alloc (.cells #[.slice S n n, .slice A n n, .slice B n n] 26)).heap.size := by simp [World.setCell]
    generalize ((((w4.setCell ⟨w.heap.size, 0, none⟩ (.slice S n n)).setCell ⟨w.heap.size, 1, none⟩ (.slice A n n)).setCell ⟨w.heap.size, 2, none⟩ (.slice B n n)).alloc (.cells #[.slice S n n, .slice A n n, .slice B n n] 26)) = W at *
    refine bodyPost_ret (v := .agg #[.slice S n n, .slice A n n, .slice B n n]) (by simp [results, Try.results41, go_sem, c0, c1, c2]) rfl ⟨_, S, A, B, n, n, n, n, n, n, s, rA, rB, f, g, _, rfl, rfl, fun W' hs => HAT.out W' (hsm.trans (hs.widen (by have := HS3.out; omega) hzz)), HN.out.1, HN.out.2, hrd, by omega, hgr⟩
  · have hx0' : ((x : Int) == 0) = false := by simp; omega
    go_wp2_with fail
    refine (pick_any b (p + 1) 3 w2 HR2.out (by omega)).mono ?_
    rintro e w3 ⟨y, rfl, hy, hR3, hG3⟩
    have hy2 : y ≤ 2 := by omega
    have HB3 : Hid (Blk w3 w.heap.size 26 #[.slice none 0 0, .slice none 0 0, .slice none 0 0]) := Lib.hid (HB2.out.grown hG3 (by simp; omega))
    have HG3 := Lib.hid (HG2.out.step hG3)
    have HS3 : Hid (w.heap.size < w3.heap.size) := Lib.hid (by have := HS2.out; have := hG3.size; omega)
    have HQ0 : Hid (RSt b w3.heap.size (y + 1) 0 0 0 (p + 2) w none 0 [] none 0 [] none 0 [] #[.slice none 0 0, .slice none 0 0, .slice none 0 0] (w3.alloc (.cells #[.slice none 0 0, .slice none 0 0, .slice none 0 0] 26))) := Lib.hid ⟨HB3.out.keeps (Keeps.alloc _ _), Blk.new w3 _ _, OwnInts.nil _ _, ⟨World.ownsRow_nil _ _ _ 1, fun h hh => by simp at hh⟩, ⟨World.ownsRow_nil _ _ _ 1, fun h hh => by simp at hh⟩, fun h hh => by simp at hh, fun h hh => by simp at hh, fun d e => (by cases e), hR3.gro (Keeps.alloc _ _), HG3.out.step (Gro.ofKeeps (Keeps.alloc _ _)), HS3.out, hbw⟩
    clear hR3 hG3 HB3 HB2 HR2 HG2 HS2 hx
    go_wp2_with fail
    generalize w3.alloc (.cells #[.slice none 0 0, .slice none 0 0, .slice none 0 0] 26) = w4 at *
    generalize w3.heap.size = V at *
    go_loopw [7] (fun i wr => ∃ (k q : Nat) (S : Option Addr) (cS : Nat) (l : List Int) (A : Option Addr) (cA : Nat) (R1 : List Hdr) (B : Option Addr) (cB : Nat) (R2 : List Hdr), k ≤ y + 1 ∧ i = .int .i64 k ∧ q ≤ p + 2 + 13 * k ∧ Hid (RSt b V (y + 1) k k k q w S cS l A cA R1 B cB R2 #[.slice S k cS, .slice A k cA, .slice B k cB] wr)) (fun i _ => y + 1 - (intOf i).toNat)
    case atStart => exact ⟨0, p + 2, none, 0, [], none, 0, [], none, 0, [], by omega, rfl, by omega, HQ0⟩
    case round =>
      clear HQ0
      obtain ⟨k, q, S, cS, l, A, cA, R1, B, cB, R2, hk, rfl, hq, HQ⟩ := hrel
      by_cases hlt : k < y + 1
      · have hki : (k : Int) < 1 + (y : Int) := by omega
        have d0 : wr.cell? ⟨V, 0, none⟩ = some (.slice S k cS) := HQ.out.box.cell 0
        have f0 := HQ.out.box.frozen 0
        have hVlt := HQ.out.box.lt
        have hsz := HQ.out.gro.size
        go_upto_region 9 with fail
        go_region_law (first | (refine step_go 55 #[.tmp 33, .const (.int .i64 2)] #[42, 3] rfl rfl (fun _ _ => rfl) (by simp [Act.eval, Act.put]) (pick_any b q 2 _ (HQ.out.rd.gro (Keeps.drew1 _)) (by omega)) ?_; rintro e w4 ⟨z, rfl, hz, hR4, hG4⟩; refine ⟨_, rfl, ?_⟩; have hQ4 := (HQ.out.step (Keeps.drew1 _)).pick hG4 hR4; have d4 : w4.cell? ⟨V, 0, none⟩ = some (.slice S k cS) := hQ4.box.cell 0; have z4 := hQ4.box.lt; have hQ5 := hQ4.step (Keeps.alloc w4 (.cells #[.int .i64 z] 3))) | (refine step_intH rfl (.tmp 32) (.tmp 35) rfl w.heap.size S k cS l _ rfl hQ5.says w4.heap.size z (by rw [(Blk.new w4 #[.int .i64 z] 3).cell 0]; rfl) rfl (by omega) hQ5.gro.size ?_; intro gs c6 w6 hO6 hg6 hor6; have hQ6 := hQ5.say hO6 hg6 (by rcases hor6 with e | e; exact .inl e; exact .inr (by omega)); have e6 : w6.cell? ⟨V, 0, none⟩ = some (.slice S k cS) := hQ6.box.cell 0; have f6 := hQ6.box.frozen 0))
        all_goals
          have HQ7 : Hid (RSt b V (y + 1) (k + 1) k k (q + 1) w (some ⟨gs, 0, none⟩) c6 (l ++ [(z : Int)]) A cA R1 B cB R2 #[.slice (some ⟨gs, 0, none⟩) (k + 1) c6, .slice A k cA, .slice B k cB] (w6.setCell ⟨V, 0, none⟩ (.slice (some ⟨gs, 0, none⟩) (k + 1) c6))) := Lib.hid (hQ6.store 0 _)
          clear hQ4 hQ5 hQ6 hR4 hG4 d4 z4 hO6 hg6 hor6 e6 f6 d0 f0 HQ hVlt hsz
          as_aux_lemma =>
            generalize w6.setCell ⟨V, 0, none⟩ (.slice (some ⟨gs, 0, none⟩) (k + 1) c6) = w7 at *
            have HLOW : Hid (w.heap.size ≤ w7.heap.size ∧ V < w7.heap.size ∧ ((∀ d, (some (⟨gs, 0, none⟩ : Addr)).map (·.block) = some d → d < w7.heap.size) ∧ (∀ d, A.map (·.block) = some d → d < w7.heap.size) ∧ (∀ d, B.map (·.block) = some d → d < w7.heap.size) ∧ ∀ h ∈ R1 ++ R2, h.g < w7.heap.size)) := Lib.hid (by
              obtain ⟨h1, h2, h3, h4, h5⟩ := HQ7.out.lows
              exact ⟨HQ7.out.gro.size, h5, fun d e => (h1 d e).2, fun d e => (h2 d e).2, fun d e => (h3 d e).2, fun z hz => (h4 z hz).2⟩)
            have HXY : Hid (RSt b V (y + 1) (k + 1) k k (q + 1) w (some ⟨gs, 0, none⟩) c6 (l ++ [(z : Int)]) A cA R1 B cB R2 #[.slice (some ⟨gs, 0, none⟩) (k + 1) c6, .slice A k cA, .slice B k cB] ((w7.alloc (.cells #[] 3)).alloc (.cells #[] 3)) ∧ OwnInts ((w7.alloc (.cells #[] 3)).alloc (.cells #[] 3)) w7.heap.size (some ⟨w7.heap.size, 0, none⟩) 0 0 [] ∧ OwnInts ((w7.alloc (.cells #[] 3)).alloc (.cells #[] 3)) w7.heap.size (some ⟨w7.heap.size + 1, 0, none⟩) 0 0 []) := Lib.hid ⟨(HQ7.out.step (Keeps.alloc _ _)).step (Keeps.alloc _ _), (OwnInts.made w7 w7.heap.size (Nat.le_refl _)).keeps (Keeps.alloc _ _), by
              have h := OwnInts.made (w7.alloc (.cells #[] 3)) w7.heap.size (by simp)
              rw [World.size_alloc] at h
              exact h⟩
            clear HQ7
            go_wp2_with fail
            generalize hL : w7.heap.size = L at *
            clear hL
            generalize (w7.alloc (.cells #[] 3)).alloc (.cells #[] 3) = w8 at *
            go_loopw [10, 8, 9] (fun j xv yv wi => ∃ (j' gx cx gy cy q' : Nat) (lx ly : List Int), j' ≤ y + 1 ∧ j = .int .i64 j' ∧ xv = .slice (some ⟨gx, 0, none⟩) j' cx ∧ yv = .slice (some ⟨gy, 0, none⟩) j' cy ∧ q' ≤ q + 1 + 4 * j' ∧ gx ≠ gy ∧ Hid (RSt b V (y + 1) (k + 1) k k q' w (some ⟨gs, 0, none⟩) c6 (l ++ [(z : Int)]) A cA R1 B cB R2 #[.slice (some ⟨gs, 0, none⟩) (k + 1) c6, .slice A k cA, .slice B k cB] wi ∧ OwnInts wi L (some ⟨gx, 0, none⟩) j' cx lx ∧ OwnInts wi L (some ⟨gy, 0, none⟩) j' cy ly)) (fun j _ _ _ => y + 1 - (intOf j).toNat)
            case atStart => exact ⟨0, L, 0, L + 1, 0, q + 1, [], [], by omega, rfl, rfl, rfl, by omega, by omega, HXY⟩
            case round =>
              clear HXY
              obtain ⟨j, gx, cx, gy, cy, q2, lx, ly, hj, rfl, rfl, rfl, hq2, hxy, HXY⟩ := hrel
              by_cases hltj : j < y + 1
              · have hji : (j : Int) < 1 + (y : Int) := by omega
                have HQ := Lib.hid HXY.out.1
                have HX := Lib.hid HXY.out.2.1
                have HY := Lib.hid HXY.out.2.2
                have hbL : b < L := by have := HLOW.out.1; omega
                clear HXY
                go_wp2_with fail
                refine (pick_any b q2 (1 + (y : Int)) wr HQ.out.rd (by omega)).mono ?_
                rintro e w9 ⟨u, rfl, hu, hR9, hG9⟩
                have HQ9 := Lib.hid (HQ.out.pick hG9 hR9)
                have HX9 : Hid (OwnInts w9 L (some ⟨gx, 0, none⟩) j cx lx) := Lib.hid (own_kept HX.out hG9 (fun d hd e => by have := (own_block HX.out d hd).1; have e2 : b = d := (by simpa using e); omega))
                have HY9 : Hid (OwnInts w9 L (some ⟨gy, 0, none⟩) j cy ly) := Lib.hid (own_kept HY.out hG9 (fun d hd e => by have := (own_block HY.out d hd).1; have e2 : b = d := (by simpa using e); omega))
                clear hR9 hG9 HQ HX HY
                obtain ⟨xf, hxf⟩ : ∃ xf : Nat → Int, xf = fun i => [(k : Int), (u : Int)].getD i 0 := ⟨_, rfl⟩
                have HXF : Hid (Ints (w9.alloc (.cells #[.int .i64 (k : Int), .int .i64 (u : Int)] 3)) (some ⟨w9.heap.size, 0, none⟩) 2 xf) := Lib.hid (by rw [hxf]; exact ints_lit w9 [(k : Int), (u : Int)])
                clear hxf
                go_wp2_with fail
                refine (one_any b (q2 + 1) (some ⟨w9.heap.size, 0, none⟩) 2 2 xf _ (HQ9.out.step (Keeps.alloc _ _)).rd (by omega) (by omega) (by omega) HXF.out (fun d off e => by cases e; have := (HY9.out.block).2; have := HY9.out.block.1; omega)).mono ?_
                rintro e w10 ⟨i1, hi1, rfl, hR10, hG10⟩
                generalize xf i1 = v1 at *
                have HQ10 := Lib.hid ((HQ9.out.step (Keeps.alloc _ _)).pick hG10 hR10)
                have HX10 : Hid (OwnInts w10 L (some ⟨gx, 0, none⟩) j cx lx) := Lib.hid (own_kept (HX9.out.keeps (Keeps.alloc _ _)) hG10 (fun d hd e => by have := (own_block HX9.out d hd).1; have e2 : b = d := (by simpa using e); omega))
                have HY10 : Hid (OwnInts w10 L (some ⟨gy, 0, none⟩) j cy ly) := Lib.hid (own_kept (HY9.out.keeps (Keeps.alloc _ _)) hG10 (fun d hd e => by have := (own_block HY9.out d hd).1; have e2 : b = d := (by simpa using e); omega))
                clear hR10 hG10 HQ9 HX9 HY9
                have hs10 : L ≤ w10.heap.size := by have := HX10.out.block; omega
                go_wp2_with (first | (at_builtin; go_loud (refine wp_intH rfl _ _ rfl L (some ⟨gx, 0, none⟩) j cx lx _ rfl (HX10.out.keeps (Keeps.alloc _ _)) w10.heap.size v1 (by rw [(Blk.new w10 #[.int .i64 v1] 3).cell 0]; rfl) rfl (by omega) (by have := (Keeps.alloc w10 (.cells #[.int .i64 v1] 3)).size; omega) ?_; intro gx2 cx2 w11 hX11 hg11 hor11)))
                have hgx : L ≤ gx := HX10.out.block.1
                have hgy : L ≤ gy ∧ gy < w10.heap.size := HY10.out.block
                have HQ11 := Lib.hid ((HQ10.out.step (Keeps.alloc w10 (.cells #[.int .i64 v1] 3))).above HLOW.out.1 HLOW.out.2.1 HLOW.out.2.2 hg11 hgx)
                have HX11 := Lib.hid hX11
                have HY11 : Hid (OwnInts w11 L (some ⟨gy, 0, none⟩) j cy ly) := Lib.hid (own_kept (HY10.out.keeps (Keeps.alloc _ _)) hg11 (fun d hd e => by have e1 : gy = d := (by simpa using hd); have e2 : gx = d := (by simpa using e); omega))
                have hxy2 : gx2 ≠ gy := by
                  rcases hor11 with e | e
                  · have e1 : gx = gx2 := by simpa using e
                    omega
                  · have := (Keeps.alloc w10 (.cells #[.int .i64 v1] 3)).size
                    omega
                clear hX11 hg11 hor11 HQ10 HX10 HY10 hgx hgy hs10 HXF
                refine (pick_any b (q2 + 1 + 1) (1 + (y : Int)) w11 HQ11.out.rd (by omega)).mono ?_
                rintro e w12 ⟨u2, rfl, hu2, hR12, hG12⟩
                have HQ12 := Lib.hid (HQ11.out.pick hG12 hR12)
                have HX12 : Hid (OwnInts w12 L (some ⟨gx2, 0, none⟩) (j + 1) cx2 (lx ++ [v1])) := Lib.hid (own_kept HX11.out hG12 (fun d hd e => by have := (own_block HX11.out d hd).1; have e2 : b = d := (by simpa using e); omega))
                have HY12 : Hid (OwnInts w12 L (some ⟨gy, 0, none⟩) j cy ly) := Lib.hid (own_kept HY11.out hG12 (fun d hd e => by have := (own_block HY11.out d hd).1; have e2 : b = d := (by simpa using e); omega))
                clear hR12 hG12 HQ11 HX11 HY11
                obtain ⟨xf, hxf⟩ : ∃ xf : Nat → Int, xf = fun i => [(j : Int), (u2 : Int)].getD i 0 := ⟨_, rfl⟩
                have HXF : Hid (Ints (w12.alloc (.cells #[.int .i64 (j : Int), .int .i64 (u2 : Int)] 3)) (some ⟨w12.heap.size, 0, none⟩) 2 xf) := Lib.hid (by rw [hxf]; exact ints_lit w12 [(j : Int), (u2 : Int)])
                clear hxf
                go_wp2_with fail
                refine (one_any b (q2 + 1 + 1 + 1) (some ⟨w12.heap.size, 0, none⟩) 2 2 xf _ (HQ12.out.step (Keeps.alloc _ _)).rd (by omega) (by omega) (by omega) HXF.out (fun d off e => by cases e; have := (HY12.out.block).2; have := HY12.out.block.1; omega)).mono ?_
                rintro e w13 ⟨i2, hi2, rfl, hR13, hG13⟩
                generalize xf i2 = v2 at *
                have HQ13 := Lib.hid ((HQ12.out.step (Keeps.alloc _ _)).pick hG13 hR13)
                have HX13 : Hid (OwnInts w13 L (some ⟨gx2, 0, none⟩) (j + 1) cx2 (lx ++ [v1])) := Lib.hid (own_kept (HX12.out.keeps (Keeps.alloc _ _)) hG13 (fun d hd e => by have := (own_block HX12.out d hd).1; have e2 : b = d := (by simpa using e); omega))
                have HY13 : Hid (OwnInts w13 L (some ⟨gy, 0, none⟩) j cy ly) := Lib.hid (own_kept (HY12.out.keeps (Keeps.alloc _ _)) hG13 (fun d hd e => by have := (own_block HY12.out d hd).1; have e2 : b = d := (by simpa using e); omega))
                clear hR13 hG13 HQ12 HX12 HY12
                have hs13 : L ≤ w13.heap.size := by have := HX13.out.block; omega
                go_wp2_with (first | (at_builtin; go_loud (refine wp_intH rfl _ _ rfl L (some ⟨gy, 0, none⟩) j cy ly _ rfl (HY13.out.keeps (Keeps.alloc _ _)) w13.heap.size v2 (by rw [(Blk.new w13 #[.int .i64 v2] 3).cell 0]; rfl) rfl (by omega) (by have := (Keeps.alloc w13 (.cells #[.int .i64 v2] 3)).size; omega) ?_; intro gy2 cy2 w14 hY14 hg14 hor14)))
                have hgy : L ≤ gy := HY13.out.block.1
                have hgx : L ≤ gx2 ∧ gx2 < w13.heap.size := HX13.out.block
                have HXY : Hid (RSt b V (y + 1) (k + 1) k k (q2 + 1 + 1 + 1 + 1) w (some ⟨gs, 0, none⟩) c6 (l ++ [(z : Int)]) A cA R1 B cB R2 #[.slice (some ⟨gs, 0, none⟩) (k + 1) c6, .slice A k cA, .slice B k cB] w14 ∧ OwnInts w14 L (some ⟨gx2, 0, none⟩) (j + 1) cx2 (lx ++ [v1]) ∧ OwnInts w14 L (some ⟨gy2, 0, none⟩) (j + 1) cy2 (ly ++ [v2])) := Lib.hid ⟨(HQ13.out.step (Keeps.alloc w13 (.cells #[.int .i64 v2] 3))).above HLOW.out.1 HLOW.out.2.1 HLOW.out.2.2 hg14 hgy, own_kept (HX13.out.keeps (Keeps.alloc _ _)) hg14 (fun d hd e => by have e1 : gx2 = d := (by simpa using hd); have e2 : gy = d := (by simpa using e); omega), hY14⟩
                have hxy3 : gx2 ≠ gy2 := by
                  rcases hor14 with e | e
                  · have e1 : gy = gy2 := by simpa using e
                    omega
                  · have := (Keeps.alloc w13 (.cells #[.int .i64 v2] 3)).size
                    omega
                clear hY14 hg14 hor14 HQ13 HX13 HY13 hgx hgy hs13 HXF
                go_wp2_with fail
                go_roundw
                case rel => exact ⟨j + 1, gx2, cx2, gy2, cy2, q2 + 1 + 1 + 1 + 1, _, _, by omega, by go_num, rfl, rfl, by omega, hxy3, HXY⟩
                case measure => simp [intOf]; omega
              · obtain rfl : j = y + 1 := by omega
                have HQ := Lib.hid HXY.out.1
                have HX := Lib.hid HXY.out.2.1
                have HY := Lib.hid HXY.out.2.2
                have HLX := Lib.hid HXY.out.2.1.len
                have HLY := Lib.hid HXY.out.2.2.len
                have hgx : L ≤ gx := HX.out.block.1
                have hgy : L ≤ gy := HY.out.block.1
                have hgs : gs < L := HLOW.out.2.2.1 gs rfl
                have hwL := HLOW.out.1
                have d1 : wr.cell? ⟨V, 1, none⟩ = some (.slice A k cA) := HQ.out.box.cell 1
                have hVlt := HQ.out.box.lt
                have hsz := HQ.out.gro.size
                clear HXY
                as_aux_lemma =>
                  go_upto_region 18 with (first | (at_builtin; go_loud (refine wp_crdH rfl _ _ rfl w.heap.size A k cA R1 _ rfl (HQ.out.first.keeps (Keeps.alloc _ _)) wr.heap.size ⟨gx, cx, cx, lx⟩ (by rw [(Blk.new wr #[.slice (some ⟨gx, 0, none⟩) (y + 1) cx] 23).cell 0]; unfold Hdr.v; rw [HLX.out]; rfl) (by rw [HLX.out]; exact (HX.out.mono hwL).keeps (Keeps.alloc _ _)) rfl (by omega) (by have := (Keeps.alloc wr (.cells #[.slice (some ⟨gx, 0, none⟩) (y + 1) cx] 23)).size; omega) ?_; intro g15 c15 w15 hC15 hg15 hor15; have hQ15 := (HQ.out.step (Keeps.alloc wr (.cells #[.slice (some ⟨gx, 0, none⟩) (y + 1) cx] 23))).row1 hC15 HLX.out (by simp; omega) hg15 (by rcases hor15 with e | e; exact .inl e; exact .inr (by omega)); have hY15 : OwnInts w15 L (some ⟨gy, 0, none⟩) (y + 1) cy ly := own_kept (HY.out.keeps (Keeps.alloc wr (.cells #[.slice (some ⟨gx, 0, none⟩) (y + 1) cx] 23))) hg15 (fun d hd e => own_type HY.out HQ.out.first.top (by decide) d hd e); have e15 : w15.cell? ⟨V, 1, none⟩ = some (.slice A k cA) := hQ15.box.cell 1; have f15 := hQ15.box.frozen 1)))
                  have HQ16 : Hid (RSt b V (y + 1) (k + 1) (k + 1) k q2 w (some ⟨gs, 0, none⟩) c6 (l ++ [(z : Int)]) (some ⟨g15, 0, none⟩) c15 (R1 ++ [⟨gx, cx, cx, lx⟩]) B cB R2 #[.slice (some ⟨gs, 0, none⟩) (k + 1) c6, .slice (some ⟨g15, 0, none⟩) (k + 1) c15, .slice B k cB] (w15.setCell ⟨V, 1, none⟩ (.slice (some ⟨g15, 0, none⟩) (k + 1) c15))) := Lib.hid (hQ15.store 1 _)
                  have HY16 : Hid (OwnInts (w15.setCell ⟨V, 1, none⟩ (.slice (some ⟨g15, 0, none⟩) (k + 1) c15)) L (some ⟨gy, 0, none⟩) (y + 1) cy ly) := Lib.hid (hY15.grown (grown_set _ _ _ _) hQ15.box (by decide))
                  clear hC15 hg15 hor15 hQ15 hY15 e15 f15 d1 HQ HX HY hVlt hsz
                  generalize w15.setCell ⟨V, 1, none⟩ (.slice (some ⟨g15, 0, none⟩) (k + 1) c15) = w16 at *
                  have d2 : w16.cell? ⟨V, 2, none⟩ = some (.slice B k cB) := HQ16.out.box.cell 2
                  have hVlt := HQ16.out.box.lt
                  have hsz := HQ16.out.gro.size
                  go_wp2_with (first | (at_builtin; go_loud (refine wp_crdH rfl _ _ rfl w.heap.size B k cB R2 _ rfl (HQ16.out.second.keeps (Keeps.alloc _ _)) w16.heap.size ⟨gy, cy, cy, ly⟩ (by rw [(Blk.new w16 #[.slice (some ⟨gy, 0, none⟩) (y + 1) cy] 23).cell 0]; unfold Hdr.v; rw [HLY.out]; rfl) (by rw [HLY.out]; exact (HY16.out.mono hwL).keeps (Keeps.alloc _ _)) rfl (by omega) (by have := (Keeps.alloc w16 (.cells #[.slice (some ⟨gy, 0, none⟩) (y + 1) cy] 23)).size; omega) ?_; intro g17 c17 w17 hC17 hg17 hor17; have hQ17 := (HQ16.out.step (Keeps.alloc w16 (.cells #[.slice (some ⟨gy, 0, none⟩) (y + 1) cy] 23))).row2 hC17 HLY.out (by simp; omega) hg17 (by rcases hor17 with e | e; exact .inl e; exact .inr (by omega)); have e17 : w17.cell? ⟨V, 2, none⟩ = some (.slice B k cB) := hQ17.box.cell 2; have f17 := hQ17.box.frozen 2)))
                  have HQ18 : Hid (RSt b V (y + 1) (k + 1) (k + 1) (k + 1) q2 w (some ⟨gs, 0, none⟩) c6 (l ++ [(z : Int)]) (some ⟨g15, 0, none⟩) c15 (R1 ++ [⟨gx, cx, cx, lx⟩]) (some ⟨g17, 0, none⟩) c17 (R2 ++ [⟨gy, cy, cy, ly⟩]) #[.slice (some ⟨gs, 0, none⟩) (k + 1) c6, .slice (some ⟨g15, 0, none⟩) (k + 1) c15, .slice (some ⟨g17, 0, none⟩) (k + 1) c17] (w17.setCell ⟨V, 2, none⟩ (.slice (some ⟨g17, 0, none⟩) (k + 1) c17))) := Lib.hid (hQ17.store 2 _)
                  clear hC17 hg17 hor17 hQ17 e17 f17 d2 HQ16 HY16 hVlt hsz
                  go_wp2_with fail
                  go_roundw
                  case rel => exact ⟨k + 1, q2, _, _, _, _, _, _, _, _, _, by omega, by go_num, by omega, HQ18⟩
                  case measure => simp [intOf]; omega
      · obtain rfl : k = y + 1 := by omega
        obtain ⟨gS, rfl⟩ := HQ.out.says.at (by omega)
        obtain ⟨gA, rfl, _, _⟩ := HQ.out.first.at (by omega)
        obtain ⟨gB, rfl, _, _⟩ := HQ.out.second.at (by omega)
        have hVlt := HQ.out.box.lt
        go_wp2_with fail
        refine (pick_any b q 30 wr HQ.out.rd (by omega)).mono ?_
        rintro e w5 ⟨t, rfl, ht, hR5, hG5⟩
        have HQ5 := Lib.hid (HQ.out.pick hG5 hR5)
        clear hR5 hG5 HQ
        have hV5 := HQ5.out.box.lt
        have hv := HQ5.out.vlo
        by_cases h0 : t = 0
        · subst h0
          have d0 : w5.cell? ⟨V, 0, none⟩ = some (.slice (some ⟨gS, 0, none⟩) (y + 1) cS) := HQ5.out.box.cell 0
          have c0 := HQ5.out.says.cell 0 (by omega)
          have f0 := HQ5.out.says.frozen 0
          have hyp : (0 : Int) < (y : Int) + 1 := by omega
          go_upto_region 26 with fail
          have HQz := Lib.hid (HQ5.out.sayset 0 2)
          clear d0 c0 f0 HQ5 hv hV5
          generalize w5.setCell ⟨gS, 0, none⟩ (.int .i64 2) = wz at *
          have d0 : wz.cell? ⟨V, 0, none⟩ = some (.slice (some ⟨gS, 0, none⟩) (y + 1) cS) := HQz.out.box.cell 0
          have d1 : wz.cell? ⟨V, 1, none⟩ = some (.slice (some ⟨gA, 0, none⟩) (y + 1) cA) := HQz.out.box.cell 1
          have d2 : wz.cell? ⟨V, 2, none⟩ = some (.slice (some ⟨gB, 0, none⟩) (y + 1) cB) := HQz.out.box.cell 2
          have e0 : wz.cell? ⟨w.heap.size, 0, none⟩ = some (.slice none 0 0) := HQz.out.res.cell 0
          have e1 : wz.cell? ⟨w.heap.size, 1, none⟩ = some (.slice none 0 0) := HQz.out.res.cell 1
          have e2 : wz.cell? ⟨w.heap.size, 2, none⟩ = some (.slice none 0 0) := HQz.out.res.cell 2
          have f0 := HQz.out.res.frozen 0
          have f1 := HQz.out.res.frozen 1
          have f2 := HQz.out.res.frozen 2
          have hv := HQz.out.vlo
          have hvl := HQz.out.box.lt
          have hwz : w.heap.size < wz.heap.size := by omega
          go_wp2
          have y1 := ((HQz.out.res.set 0 (.slice (some ⟨gS, 0, none⟩) (y + 1) cS)).set 1 (.slice (some ⟨gA, 0, none⟩) (y + 1) cA)).set 2 (.slice (some ⟨gB, 0, none⟩) (y + 1) cB)
          have c0 := y1.cell 0
          have c1 := y1.cell 1
          have c2 := y1.cell 2
          have hgr : Gro b w (((wz.setCell ⟨w.heap.size, 0, none⟩ (.slice (some ⟨gS, 0, none⟩) (y + 1) cS)).setCell ⟨w.heap.size, 1, none⟩ (.slice (some ⟨gA, 0, none⟩) (y + 1) cA)).setCell ⟨w.heap.size, 2, none⟩ (.slice (some ⟨gB, 0, none⟩) (y + 1) cB)) := ((HQz.out.gro.setAbove (by omega) _).setAbove (by omega) _).setAbove (by omega) _
          have hrd := ((HQz.out.rd.set_other (d := w.heap.size) (o := 0) hbw (.slice (some ⟨gS, 0, none⟩) (y + 1) cS)).set_other (d := w.heap.size) (o := 1) hbw (.slice (some ⟨gA, 0, none⟩) (y + 1) cA)).set_other (d := w.heap.size) (o := 2) hbw (.slice (some ⟨gB, 0, none⟩) (y + 1) cB)
          refine bodyPost_ret (v := .agg #[.slice (some ⟨gS, 0, none⟩) (y + 1) cS, .slice (some ⟨gA, 0, none⟩) (y + 1) cA, .slice (some ⟨gB, 0, none⟩) (y + 1) cB]) (by simp [results, Try.results41, go_sem, c0, c1, c2]) rfl ⟨_, (some ⟨gS, 0, none⟩), (some ⟨gA, 0, none⟩), (some ⟨gB, 0, none⟩), (y + 1), cS, (y + 1), cA, (y + 1), cB, _, _, _, _, _, _, rfl, rfl, fun W' hs => (HQz.out.rulAt (by omega) (by omega) (by omega) (by omega) W' (fun i a1 a2 => by rw [hs i (by omega) (by simp [World.setCell]; omega), Below.heap_setCell _ _ _ _ (by simp only; omega), Below.heap_setCell _ _ _ _ (by simp only; omega), Below.heap_setCell _ _ _ _ (by simp only; omega)])), by omega, by omega, hrd, by omega, hgr⟩
        · by_cases h1 : t = 1
          · subst h1
            have d1 : w5.cell? ⟨V, 1, none⟩ = some (.slice (some ⟨gA, 0, none⟩) (y + 1) cA) := HQ5.out.box.cell 1
            have c0 := HQ5.out.first.cellD 0 (by omega)
            have hm : R1.getD 0 default ∈ R1 := getD_mem (by rw [HQ5.out.first.len]; omega)
            have hlen := HQ5.out.lens _ (List.mem_append_left R2 hm)
            have hro := HQ5.out.first.rowD 0 (by omega)
            unfold Hdr.v at c0
            rw [hlen] at c0 hro
            have cx := hro.cell 0 (by omega)
            have fx := hro.frozen 0
            have HXM : Hid (∃ z ∈ R1 ++ R2, z.g = (R1.getD 0 default).g) := Lib.hid ⟨_, List.mem_append_left _ hm, rfl⟩
            generalize (R1.getD 0 default).g = xg at *
            generalize (R1.getD 0 default).c = xc at *
            have hyp : (0 : Int) < (y : Int) + 1 := by omega
            clear hm hlen hro
            go_upto_region 26 with fail
            have HQz := Lib.hid (HQ5.out.cellset HXM.out 0 (1 + (y : Int)))
            clear d1 c0 cx fx HQ5 hv hV5 HXM
            generalize w5.setCell ⟨xg, 0, none⟩ (.int .i64 (1 + (y : Int))) = wz at *
            have d0 : wz.cell? ⟨V, 0, none⟩ = some (.slice (some ⟨gS, 0, none⟩) (y + 1) cS) := HQz.out.box.cell 0
            have d1 : wz.cell? ⟨V, 1, none⟩ = some (.slice (some ⟨gA, 0, none⟩) (y + 1) cA) := HQz.out.box.cell 1
            have d2 : wz.cell? ⟨V, 2, none⟩ = some (.slice (some ⟨gB, 0, none⟩) (y + 1) cB) := HQz.out.box.cell 2
            have e0 : wz.cell? ⟨w.heap.size, 0, none⟩ = some (.slice none 0 0) := HQz.out.res.cell 0
            have e1 : wz.cell? ⟨w.heap.size, 1, none⟩ = some (.slice none 0 0) := HQz.out.res.cell 1
            have e2 : wz.cell? ⟨w.heap.size, 2, none⟩ = some (.slice none 0 0) := HQz.out.res.cell 2
            have f0 := HQz.out.res.frozen 0
            have f1 := HQz.out.res.frozen 1
            have f2 := HQz.out.res.frozen 2
            have hv := HQz.out.vlo
            have hvl := HQz.out.box.lt
            have hwz : w.heap.size < wz.heap.size := by omega
            go_wp2
            have y1 := ((HQz.out.res.set 0 (.slice (some ⟨gS, 0, none⟩) (y + 1) cS)).set 1 (.slice (some ⟨gA, 0, none⟩) (y + 1) cA)).set 2 (.slice (some ⟨gB, 0, none⟩) (y + 1) cB)
            have c0 := y1.cell 0
            have c1 := y1.cell 1
            have c2 := y1.cell 2
            have hgr : Gro b w (((wz.setCell ⟨w.heap.size, 0, none⟩ (.slice (some ⟨gS, 0, none⟩) (y + 1) cS)).setCell ⟨w.heap.size, 1, none⟩ (.slice (some ⟨gA, 0, none⟩) (y + 1) cA)).setCell ⟨w.heap.size, 2, none⟩ (.slice (some ⟨gB, 0, none⟩) (y + 1) cB)) := ((HQz.out.gro.setAbove (by omega) _).setAbove (by omega) _).setAbove (by omega) _
            have hrd := ((HQz.out.rd.set_other (d := w.heap.size) (o := 0) hbw (.slice (some ⟨gS, 0, none⟩) (y + 1) cS)).set_other (d := w.heap.size) (o := 1) hbw (.slice (some ⟨gA, 0, none⟩) (y + 1) cA)).set_other (d := w.heap.size) (o := 2) hbw (.slice (some ⟨gB, 0, none⟩) (y + 1) cB)
            refine bodyPost_ret (v := .agg #[.slice (some ⟨gS, 0, none⟩) (y + 1) cS, .slice (some ⟨gA, 0, none⟩) (y + 1) cA, .slice (some ⟨gB, 0, none⟩) (y + 1) cB]) (by simp [results, Try.results41, go_sem, c0, c1, c2]) rfl ⟨_, (some ⟨gS, 0, none⟩), (some ⟨gA, 0, none⟩), (some ⟨gB, 0, none⟩), (y + 1), cS, (y + 1), cA, (y + 1), cB, _, _, _, _, _, _, rfl, rfl, fun W' hs => (HQz.out.rulAt (by omega) (by omega) (by omega) (by omega) W' (fun i a1 a2 => by rw [hs i (by omega) (by simp [World.setCell]; omega), Below.heap_setCell _ _ _ _ (by simp only; omega), Below.heap_setCell _ _ _ _ (by simp only; omega), Below.heap_setCell _ _ _ _ (by simp only; omega)])), by omega, by omega, hrd, by omega, hgr⟩
          · by_cases h2 : t = 2
            · subst h2
              have d2 : w5.cell? ⟨V, 2, none⟩ = some (.slice (some ⟨gB, 0, none⟩) (y + 1) cB) := HQ5.out.box.cell 2
              have fV := HQ5.out.box.frozen 2
              obtain ⟨_, _, _, hcb, hcb2, _, _⟩ := HQ5.out.second.top_blk
              have hcb3 : cB ≤ 9223372036854775807 := by unfold maxLen at hcb2; omega
              obtain ⟨d, rfl⟩ : ∃ d, cB = d + 1 := ⟨cB - 1, by omega⟩
              clear hcb2
              by_cases hd : d = 0
              · subst hd
                obtain rfl : y = 0 := by omega
                go_upto_region 26 with fail
                have HQz := Lib.hid (HQ5.out.store 2 (.slice (some ⟨gB, 0, none⟩) 0 0))
                clear d2 fV HQ5 hv hV5
                generalize w5.setCell ⟨V, 2, none⟩ (.slice (some ⟨gB, 0, none⟩) 0 0) = wz at *
                have d0 : wz.cell? ⟨V, 0, none⟩ = some (.slice (some ⟨gS, 0, none⟩) 1 cS) := HQz.out.box.cell 0
                have d1 : wz.cell? ⟨V, 1, none⟩ = some (.slice (some ⟨gA, 0, none⟩) 1 cA) := HQz.out.box.cell 1
                have d2 : wz.cell? ⟨V, 2, none⟩ = some (.slice (some ⟨gB, 0, none⟩) 0 0) := HQz.out.box.cell 2
                have e0 : wz.cell? ⟨w.heap.size, 0, none⟩ = some (.slice none 0 0) := HQz.out.res.cell 0
                have e1 : wz.cell? ⟨w.heap.size, 1, none⟩ = some (.slice none 0 0) := HQz.out.res.cell 1
                have e2 : wz.cell? ⟨w.heap.size, 2, none⟩ = some (.slice none 0 0) := HQz.out.res.cell 2
                have f0 := HQz.out.res.frozen 0
                have f1 := HQz.out.res.frozen 1
                have f2 := HQz.out.res.frozen 2
                have hv := HQz.out.vlo
                have hvl := HQz.out.box.lt
                have hwz : w.heap.size < wz.heap.size := by omega
                go_wp2
                have y1 := ((HQz.out.res.set 0 (.slice (some ⟨gS, 0, none⟩) 1 cS)).set 1 (.slice (some ⟨gA, 0, none⟩) 1 cA)).set 2 (.slice (some ⟨gB, 0, none⟩) 0 0)
                have c0 := y1.cell 0
                have c1 := y1.cell 1
                have c2 := y1.cell 2
                have hgr : Gro b w (((wz.setCell ⟨w.heap.size, 0, none⟩ (.slice (some ⟨gS, 0, none⟩) 1 cS)).setCell ⟨w.heap.size, 1, none⟩ (.slice (some ⟨gA, 0, none⟩) 1 cA)).setCell ⟨w.heap.size, 2, none⟩ (.slice (some ⟨gB, 0, none⟩) 0 0)) := ((HQz.out.gro.setAbove (by omega) _).setAbove (by omega) _).setAbove (by omega) _
                have hrd := ((HQz.out.rd.set_other (d := w.heap.size) (o := 0) hbw (.slice (some ⟨gS, 0, none⟩) 1 cS)).set_other (d := w.heap.size) (o := 1) hbw (.slice (some ⟨gA, 0, none⟩) 1 cA)).set_other (d := w.heap.size) (o := 2) hbw (.slice (some ⟨gB, 0, none⟩) 0 0)
                refine bodyPost_ret (v := .agg #[.slice (some ⟨gS, 0, none⟩) 1 cS, .slice (some ⟨gA, 0, none⟩) 1 cA, .slice (some ⟨gB, 0, none⟩) 0 0]) (by simp [results, Try.results41, go_sem, c0, c1, c2]) rfl ⟨_, (some ⟨gS, 0, none⟩), (some ⟨gA, 0, none⟩), (some ⟨gB, 0, none⟩), 1, cS, 1, cA, 0, 0, _, _, _, _, _, _, rfl, rfl, fun W' hs => rulAt_none (HQz.out.rulAt (by omega) (by omega) (by omega) (by omega) W' (fun i a1 a2 => by rw [hs i (by omega) (by simp [World.setCell]; omega), Below.heap_setCell _ _ _ _ (by simp only; omega), Below.heap_setCell _ _ _ _ (by simp only; omega), Below.heap_setCell _ _ _ _ (by simp only; omega)])), by omega, by omega, hrd, by omega, hgr⟩
              · go_upto_region 26 with fail
                have HQz := Lib.hid (HQ5.out.store 2 (.slice (some ⟨gB, 1, none⟩) y d))
                clear d2 fV HQ5 hv hV5
                generalize w5.setCell ⟨V, 2, none⟩ (.slice (some ⟨gB, 1, none⟩) y d) = wz at *
                have d0 : wz.cell? ⟨V, 0, none⟩ = some (.slice (some ⟨gS, 0, none⟩) (y + 1) cS) := HQz.out.box.cell 0
                have d1 : wz.cell? ⟨V, 1, none⟩ = some (.slice (some ⟨gA, 0, none⟩) (y + 1) cA) := HQz.out.box.cell 1
                have d2 : wz.cell? ⟨V, 2, none⟩ = some (.slice (some ⟨gB, 1, none⟩) y d) := HQz.out.box.cell 2
                have e0 : wz.cell? ⟨w.heap.size, 0, none⟩ = some (.slice none 0 0) := HQz.out.res.cell 0
                have e1 : wz.cell? ⟨w.heap.size, 1, none⟩ = some (.slice none 0 0) := HQz.out.res.cell 1
                have e2 : wz.cell? ⟨w.heap.size, 2, none⟩ = some (.slice none 0 0) := HQz.out.res.cell 2
                have f0 := HQz.out.res.frozen 0
                have f1 := HQz.out.res.frozen 1
                have f2 := HQz.out.res.frozen 2
                have hv := HQz.out.vlo
                have hvl := HQz.out.box.lt
                have hwz : w.heap.size < wz.heap.size := by omega
                go_wp2
                have y1 := ((HQz.out.res.set 0 (.slice (some ⟨gS, 0, none⟩) (y + 1) cS)).set 1 (.slice (some ⟨gA, 0, none⟩) (y + 1) cA)).set 2 (.slice (some ⟨gB, 1, none⟩) y d)
                have c0 := y1.cell 0
                have c1 := y1.cell 1
                have c2 := y1.cell 2
                have hgr : Gro b w (((wz.setCell ⟨w.heap.size, 0, none⟩ (.slice (some ⟨gS, 0, none⟩) (y + 1) cS)).setCell ⟨w.heap.size, 1, none⟩ (.slice (some ⟨gA, 0, none⟩) (y + 1) cA)).setCell ⟨w.heap.size, 2, none⟩ (.slice (some ⟨gB, 1, none⟩) y d)) := ((HQz.out.gro.setAbove (by omega) _).setAbove (by omega) _).setAbove (by omega) _
                have hrd := ((HQz.out.rd.set_other (d := w.heap.size) (o := 0) hbw (.slice (some ⟨gS, 0, none⟩) (y + 1) cS)).set_other (d := w.heap.size) (o := 1) hbw (.slice (some ⟨gA, 0, none⟩) (y + 1) cA)).set_other (d := w.heap.size) (o := 2) hbw (.slice (some ⟨gB, 1, none⟩) y d)
                refine bodyPost_ret (v := .agg #[.slice (some ⟨gS, 0, none⟩) (y + 1) cS, .slice (some ⟨gA, 0, none⟩) (y + 1) cA, .slice (some ⟨gB, 1, none⟩) y d]) (by simp [results, Try.results41, go_sem, c0, c1, c2]) rfl ⟨_, (some ⟨gS, 0, none⟩), (some ⟨gA, 0, none⟩), (some ⟨gB, 1, none⟩), (y + 1), cS, (y + 1), cA, y, d, _, _, _, _, _, _, rfl, rfl, fun W' hs => rulAt_tail (HQz.out.rulAt (by omega) (by omega) (by omega) (by omega) W' (fun i a1 a2 => by rw [hs i (by omega) (by simp [World.setCell]; omega), Below.heap_setCell _ _ _ _ (by simp only; omega), Below.heap_setCell _ _ _ _ (by simp only; omega), Below.heap_setCell _ _ _ _ (by simp only; omega)])), by omega, by omega, hrd, by omega, hgr⟩
            · have h0' : ((t : Int) == 0) = false := by simp; omega
              have h1' : ((t : Int) == 1) = false := by simp; omega
              have h2' : ((t : Int) == 2) = false := by simp; omega
              go_upto_region 26 with fail
              have HQz := HQ5
              clear HQ5 hv hV5
              obtain ⟨wz, hwz0⟩ : ∃ x, x = w5 := ⟨_, rfl⟩
              rw [← hwz0] at HQz ⊢
              clear hwz0
              have d0 : wz.cell? ⟨V, 0, none⟩ = some (.slice (some ⟨gS, 0, none⟩) (y + 1) cS) := HQz.out.box.cell 0
              have d1 : wz.cell? ⟨V, 1, none⟩ = some (.slice (some ⟨gA, 0, none⟩) (y + 1) cA) := HQz.out.box.cell 1
              have d2 : wz.cell? ⟨V, 2, none⟩ = some (.slice (some ⟨gB, 0, none⟩) (y + 1) cB) := HQz.out.box.cell 2
              have e0 : wz.cell? ⟨w.heap.size, 0, none⟩ = some (.slice none 0 0) := HQz.out.res.cell 0
              have e1 : wz.cell? ⟨w.heap.size, 1, none⟩ = some (.slice none 0 0) := HQz.out.res.cell 1
              have e2 : wz.cell? ⟨w.heap.size, 2, none⟩ = some (.slice none 0 0) := HQz.out.res.cell 2
              have f0 := HQz.out.res.frozen 0
              have f1 := HQz.out.res.frozen 1
              have f2 := HQz.out.res.frozen 2
              have hv := HQz.out.vlo
              have hvl := HQz.out.box.lt
              have hwz : w.heap.size < wz.heap.size := by omega
              go_wp2
              have y1 := ((HQz.out.res.set 0 (.slice (some ⟨gS, 0, none⟩) (y + 1) cS)).set 1 (.slice (some ⟨gA, 0, none⟩) (y + 1) cA)).set 2 (.slice (some ⟨gB, 0, none⟩) (y + 1) cB)
              have c0 := y1.cell 0
              have c1 := y1.cell 1
              have c2 := y1.cell 2
              have hgr : Gro b w (((wz.setCell ⟨w.heap.size, 0, none⟩ (.slice (some ⟨gS, 0, none⟩) (y + 1) cS)).setCell ⟨w.heap.size, 1, none⟩ (.slice (some ⟨gA, 0, none⟩) (y + 1) cA)).setCell ⟨w.heap.size, 2, none⟩ (.slice (some ⟨gB, 0, none⟩) (y + 1) cB)) := ((HQz.out.gro.setAbove (by omega) _).setAbove (by omega) _).setAbove (by omega) _
              have hrd := ((HQz.out.rd.set_other (d := w.heap.size) (o := 0) hbw (.slice (some ⟨gS, 0, none⟩) (y + 1) cS)).set_other (d := w.heap.size) (o := 1) hbw (.slice (some ⟨gA, 0, none⟩) (y + 1) cA)).set_other (d := w.heap.size) (o := 2) hbw (.slice (some ⟨gB, 0, none⟩) (y + 1) cB)
              refine bodyPost_ret (v := .agg #[.slice (some ⟨gS, 0, none⟩) (y + 1) cS, .slice (some ⟨gA, 0, none⟩) (y + 1) cA, .slice (some ⟨gB, 0, none⟩) (y + 1) cB]) (by simp [results, Try.results41, go_sem, c0, c1, c2]) rfl ⟨_, (some ⟨gS, 0, none⟩), (some ⟨gA, 0, none⟩), (some ⟨gB, 0, none⟩), (y + 1), cS, (y + 1), cA, (y + 1), cB, _, _, _, _, _, _, rfl, rfl, fun W' hs => (HQz.out.rulAt (by omega) (by omega) (by omega) (by omega) W' (fun i a1 a2 => by rw [hs i (by omega) (by simp [World.setCell]; omega), Below.heap_setCell _ _ _ _ (by simp only; omega), Below.heap_setCell _ _ _ _ (by simp only; omega), Below.heap_setCell _ _ _ _ (by simp only; omega)])), by omega, by omega, hrd, by omega, hgr⟩
end Go.Proofs.Ytaejakejnllimaa
