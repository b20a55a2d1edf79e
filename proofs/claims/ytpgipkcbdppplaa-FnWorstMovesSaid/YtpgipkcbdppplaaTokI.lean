/-
  The search of the program, one round of it. A solution; two to five states and machines.
-/
import Derived.Test.YtpgipkcbdppplaaTokH
namespace Go.Proofs.Ytpgipkcbdppplaa
set_option linter.unusedVariables false
open Go.RowKit
attribute [local go_sem] Oper.semAt_some

theorem wp_overS (j : Tmp) {g : Operand} {p : Tmp} {assign body : Code} {Q : Exit → Act → World → Prop} {a : Act} {w : World} {gf : Nat} {lb : Array Value} (hg : a.eval g = .func (.func gf) #[] lb) (eg : ∀ args w, (callFunc gf args).run Try.prog w = .ok (.enter gf args) w)
    {N : Nat} {Rdb : World → Prop} {Pr : Nat → Value → World → Prop} {St : World → World → Prop} (hit : Iter St gf lb N w.heap.size Rdb Pr) (hS1 : ∀ W W', St W W' → ∀ (i : Nat) (o : Obj), W.heap[i]? = some o → o.isCells = false → W'.heap[i]? = some o)
    (J : Nat → World → Prop) (Jx : World → Prop) (hJ : ∀ i W W', J i W → Moves w.heap.size W W' → J i W') (hJx : ∀ W W', Jx W → Moves w.heap.size W W' → Jx W') (hS2 : ∀ i W W', J i W → St W W' → J i W') (hJR : ∀ i W, J i W → Rdb W)
    (hPr : ∀ i v W W', Pr i v W → Moves w.heap.size W W' → Pr i v W') (h0 : J 0 w)
    (hassign : ∀ (l : Nat) (i : Nat) (v : Value) (W : World) (K : Act → World → Prop), Pr i v W → K { tmps := (a.tmps.setIfInBounds p v).setIfInBounds j v, defers := [] } W → assign.wpIn (Fence.wide.inRound l) 1 Try.prog (Exit.then K (fun _ _ _ => False)) { tmps := ((#[p] : Array Tmp).zip #[v]).foldl (fun t (p, v) => t.setIfInBounds p v) a.tmps, defers := [] } W)
    (hbody : ∀ (l i : Nat) (v : Value) (W : World), i < N → w.heap.size ≤ W.heap.size → J i W → Pr i v W → body.wpIn (Fence.wide.inRound l) 1 Try.prog (roundEnd w.heap.size (J (i + 1)) Jx W) { tmps := (a.tmps.setIfInBounds p v).setIfInBounds j v, defers := [] } W)
    (hdone : ∀ (W : World), J N W → W.heap[w.heap.size]? = some (.deferred (some [])) → Q .normal { a with defers := { target := .collected w.heap.size, args := #[] } :: a.defers } W)
    (hstop : ∀ (W : World), Jx W → W.heap[w.heap.size]? = some (.deferred (some [])) → Code.ret.wpIn Fence.wide 3 Try.prog Q { a with defers := { target := .collected w.heap.size, args := #[] } :: a.defers } W) :
    (Code.rangeFunc g #[p] assign body).wp Try.prog Q a w :=
  wp_over hg eg hit hS1 J Jx hJ hJx hS2 hJR hPr h0 (fun v => { tmps := (a.tmps.setIfInBounds p v).setIfInBounds j v, defers := [] }) hassign hbody hdone hstop
def FromAns (k n bw b1 b2 : Nat) (f : Nat → Int) (O : Nat → Prop) (x : Nat) (w : World) (e : Ending) (w' : World) : Prop :=
  Two b1 b2 w w' ∧ ((0 ≤ f x ∧ e = .returned (.tuple #[.int .i64 (f x), .bool true]) ∧ WS w' bw b1 b2 k (k ^ n) f O) ∨ (f x = -1 ∧ e = .returned (.tuple #[.int .i64 0, .bool false])))
/-- The boxes of the search and what it has, between two rounds. -/
structure FJ (k n c bw b1 b2 B sb kb : Nat) (f : Nat → Int) (a : Option Addr) (s : Nat → Nat) (O : Nat → Prop) (w : World) (i : Nat) (W : World) : Prop where
  p : Blk W B 43 #[.pointer (some ⟨bw, 0, none⟩)]
  r : Blk W (B + 1) 3 #[.int .i64 0]
  ok : Blk W (B + 1 + 1) 4 #[.bool false]
  most : ∃ m : Int, Blk W (B + 1 + 1 + 1) 3 #[.int .i64 m] ∧ PM k n f s i m
  ws : WS W bw b1 b2 k (k ^ n) f O
  rd : RdMoves k n c sb kb a s W
  two : Two b1 b2 w W
theorem Moves.block {n₀ : Nat} {W W' : World} (m : Moves n₀ W W') {i : Nat} (hi : i < W.heap.size) (h : i < n₀) : W'.heap[i]? = W.heap[i]? := by
  rw [Array.getElem?_eq_getElem hi]
  exact m.same _ _ (Array.getElem?_eq_getElem hi) (.inl h)
theorem Moves.blk {n₀ : Nat} {W W' : World} (m : Moves n₀ W W') {b : Nat} {T : TypeId} {cs : Array Value} (h : Blk W b T cs) : Blk W' b T cs := m.same _ _ h (.inr rfl)
theorem WS.moves {n₀ : Nat} {W W' : World} {bw b1 b2 k N : Nat} {f : Nat → Int} {O : Nat → Prop} (h : WS W bw b1 b2 k N f O) (m : Moves n₀ W W') (h1 : b1 < n₀) (h2 : b2 < n₀) : WS W' bw b1 b2 k N f O :=
  ⟨m.blk h.box, h.memo.same (m.block h.memo.lt h1), h.opens.same (m.block h.opens.lt h2), h.ne, h.low⟩
theorem Two.moves {n₀ b1 b2 : Nat} {w W W' : World} (h : Two b1 b2 w W) (m : Moves n₀ W W') (h1 : w.heap.size ≤ n₀) : Two b1 b2 w W' :=
  ⟨m.os.trans h.os, m.tape.trans h.tape, m.output.trans h.output, Nat.le_trans h.size m.size, fun i hi h3 h4 => (m.block (Nat.lt_of_lt_of_le hi h.size) (Nat.lt_of_lt_of_le hi h1)).trans (h.block i hi h3 h4)⟩
theorem Two.above {n₀ b1 b2 : Nat} {W W' : World} (h : Two b1 b2 W W') (h1 : b1 < n₀) (h2 : b2 < n₀) : Above n₀ W W' :=
  ⟨h.size, fun i o hi hx => (h.block i (Array.getElem?_eq_some_iff.1 hx).1 (by omega) (by omega)).trans hx⟩
theorem RdMoves.moves {n₀ k n c sb kb : Nat} {a : Option Addr} {s : Nat → Nat} {W W' : World} (h : RdMoves k n c sb kb a s W) (m : Moves n₀ W W') : RdMoves k n c sb kb a s W' := ⟨m.cell h.1, m.cell h.2.1, m.ints h.2.2⟩
theorem FJ.moves {k n c bw b1 b2 B sb kb i n₀ : Nat} {f : Nat → Int} {a : Option Addr} {s : Nat → Nat} {O : Nat → Prop} {w W W' : World} (h : FJ k n c bw b1 b2 B sb kb f a s O w i W) (m : Moves n₀ W W') (h1 : b1 < n₀) (h2 : b2 < n₀) (h3 : w.heap.size ≤ n₀) : FJ k n c bw b1 b2 B sb kb f a s O w i W' :=
  ⟨m.blk h.p, m.blk h.r, m.blk h.ok, let ⟨x, hx, hp⟩ := h.most; ⟨x, m.blk hx, hp⟩, h.ws.moves m h1 h2, h.rd.moves m, h.two.moves m h3⟩
theorem Two.put {b1 b2 D : Nat} {w W : World} (h : Two b1 b2 w W) (hD : w.heap.size ≤ D) (o : Obj) : Two b1 b2 w (W.putObj D o) :=
  ⟨h.os, h.tape, h.output, Nat.le_trans h.size (by simp), fun i hi h1 h2 => (World.putObj_heap_other (by omega)).trans (h.block i hi h1 h2)⟩
theorem Blk.put {w : World} {b D : Nat} {T : TypeId} {cs : Array Value} (h : Blk w b T cs) (hD : b ≠ D) (o : Obj) : Blk (w.putObj D o) b T cs := (World.putObj_heap_other hD).trans h
theorem WS.put {D : Nat} {W : World} {bw b1 b2 k N : Nat} {f : Nat → Int} {O : Nat → Prop} (h : WS W bw b1 b2 k N f O) (o : Obj) (h0 : bw ≠ D) (h1 : b1 ≠ D) (h2 : b2 ≠ D) : WS (W.putObj D o) bw b1 b2 k N f O :=
  h.same (World.putObj_heap_other h0) (World.putObj_heap_other h1) (World.putObj_heap_other h2)
structure FX (b1 b2 B : Nat) (w W : World) : Prop where
  r : Blk W (B + 1) 3 #[.int .i64 0]
  ok : Blk W (B + 1 + 1) 4 #[.bool false]
  two : Two b1 b2 w W
theorem FX.moves {b1 b2 B n₀ : Nat} {w W W' : World} (h : FX b1 b2 B w W) (m : Moves n₀ W W') (h3 : w.heap.size ≤ n₀) : FX b1 b2 B w W' := ⟨m.blk h.r, m.blk h.ok, h.two.moves m h3⟩
set_option maxHeartbeats 4000000 in
theorem from_round (k n c bw b1 b2 : Nat) (f : Nat → Int) (hf : Sol k n f) (a : Option Addr) (s : Nat → Nat) (O : Nat → Prop) (w : World) (hT : TokS k n s) (hI : Ints w a n (nf s)) (hW : WS w bw b1 b2 k (k ^ n) f O) (hP : Path f O (codeN k s n))
    (hrec : ¬ O (codeN k s n) → 1 < cntB (tokB n s) n → ∀ i, i < n → tokB n s i = true → ∀ (g : Nat) (w' : World), Ints w' (some ⟨g, 0, none⟩) n (nf (movF k s i)) → WS w' bw b1 b2 k (k ^ n) f (fun z => O z ∨ z = codeN k s n) →
      Calls Try.prog 24 #[.pointer (some ⟨bw, 0, none⟩), .slice (some ⟨g, 0, none⟩) n n] w' (FromAns k n bw b1 b2 f (fun z => O z ∨ z = codeN k s n) (chS k n s i) w')) :
    Calls Try.prog 24 #[.pointer (some ⟨bw, 0, none⟩), .slice a n c] w (FromAns k n bw b1 b2 f O (codeN k s n) w) := by
  have hlow := hf.low s hT.lt
  have hup := (hf.toD (by have := hT.k2; omega)).lt (by have := hT.k2; omega) (code_lt n hT.lt)
  have hcode := code_lt (k := k) n hT.lt
  have HPW : Hid (k ^ n ≤ 3125) := Lib.hid (pow5 hT.k5 hT.n5)
  have HF := Lib.hid hf
  have HI := Lib.hid hI
  have HT := Lib.hid hT
  have HP := Lib.hid hP
  have HR := Lib.hid hrec
  obtain ⟨w0, hw0⟩ : ∃ w0, w0 = ((w.alloc (.cells #[.pointer (some ⟨bw, 0, none⟩)] 43)).alloc (.cells #[.int .i64 0] 3)).alloc (.cells #[.bool false] 4) := ⟨_, rfl⟩
  obtain ⟨B, hB⟩ : ∃ B, B = w.heap.size := ⟨_, rfl⟩
  have HK0 : Hid (Keeps w w0) := Lib.hid (by rw [hw0]; exact ((Keeps.alloc w _).step (Keeps.alloc _ _)).step (Keeps.alloc _ _))
  have HB0 : Hid (Blk w0 B 43 #[.pointer (some ⟨bw, 0, none⟩)]) := Lib.hid (by rw [hw0, hB]; exact ((Blk.new w _ _).keeps (Keeps.alloc _ _)).keeps (Keeps.alloc _ _))
  have HB1 : Hid (Blk w0 (B + 1) 3 #[.int .i64 0]) := Lib.hid (by rw [hw0, hB]; exact (blk_at (by simp) (Blk.new (w.alloc (.cells #[.pointer (some ⟨bw, 0, none⟩)] 43)) _ _)).keeps (Keeps.alloc _ _))
  have HB2 : Hid (Blk w0 (B + 1 + 1) 4 #[.bool false]) := Lib.hid (by rw [hw0, hB]; exact blk_at (by simp) (Blk.new ((w.alloc (.cells #[.pointer (some ⟨bw, 0, none⟩)] 43)).alloc (.cells #[.int .i64 0] 3)) _ _))
  have HZ0 : Hid (w0.heap.size = B + 1 + 1 + 1) := Lib.hid (by rw [hw0, hB]; simp)
  have HW0 := Lib.hid (hW.keeps HK0.out)
  refine callsIn_wide.1 (callsIn_of_wp_marks (n := 3) Try.func24 rfl trivial (wpIn_mono (wpIn_wide.2 ?_) leaveM_post) rfl)
  simp only [Try.ntmps24, List.size_toArray, List.length_cons, List.length_nil, Nat.reduceAdd, Nat.reduceSub, Array.replicate_succ, Array.replicate_zero, List.push_toArray, List.append_toArray, List.nil_append, List.cons_append]
  have s0 : w0.cell? ⟨B, 0, none⟩ = some (.pointer (some ⟨bw, 0, none⟩)) := by rw [HB0.out.cell]; rfl
  have s1 : w0.cell? ⟨B + 1, 0, none⟩ = some (.int .i64 0) := by rw [HB1.out.cell]; rfl
  have s2 : w0.cell? ⟨B + 1 + 1, 0, none⟩ = some (.bool false) := by rw [HB2.out.cell]; rfl
  have f1 := HB1.out.frozen 0
  have f2 := HB2.out.frozen 0
  have c0 : w0.cell? ⟨bw, 0, none⟩ = some (.int .i64 k) := by rw [HW0.out.box.cell]; rfl
  have c1 : w0.cell? ⟨bw, 1, none⟩ = some (.map (some b1)) := by rw [HW0.out.box.cell]; rfl
  have c2 : w0.cell? ⟨bw, 2, none⟩ = some (.map (some b2)) := by rw [HW0.out.box.cell]; rfl
  have HWF : Hid ((Lit.int .i64 (f (codeN k s n))).wf = true) := Lib.hid (WalkArith.wf_i64 (by have := HPW.out; omega))
  have hW' := hW
  clear hI hW hP hrec hf hT
  have c0' := c0
  rw [hw0] at c0'
  go_wp2_with fail
  clear c0'
  rw [← hw0, ← hB]
  refine (number_any a k n c s w0 HT.out (HI.out.keeps HK0.out)).mono ?_
  rintro e w1 ⟨rfl, rfl⟩
  have HBE := Lib.hid hB
  have HWE := Lib.hid hw0
  clear hw0 hB
  have hbw : bw < B := by have := hW'.box.lt; rw [HBE.out]; exact this
  have hb1 : b1 < B := by have := hW'.memo.lt; rw [HBE.out]; exact this
  have hb2 : b2 < B := by have := hW'.opens.lt; rw [HBE.out]; exact this
  have HLT := Lib.hid (And.intro hbw (And.intro hb1 hb2))
  clear hbw hb1 hb2
  go_wp2_with (first | (refine wp_memo rfl _ _ rfl rfl HW0.out.memo _ rfl _ rfl (by have := HPW.out; omega) ?_; intro mv mok hmo; have HMO := Lib.hid hmo; clear hmo) | (refine wp_look rfl _ _ rfl rfl HW0.out.opens _ rfl _ rfl (by have := HPW.out; omega) ?_; intro cc hcc; have HCC := Lib.hid hcc; clear hcc))
  · obtain ⟨h1, h2, h3⟩ := HLT.out
    obtain ⟨e1, e2⟩ := HMO.out (by assumption)
    refine postM_plain rfl (results_two rfl _ _ rfl rfl (x := mv) (y := true) ?_ ?_) ⟨((Two.ofKeeps HK0.out).setCell (by rw [HBE.out]; simp only; omega) _).setCell (by rw [HBE.out]; simp only; omega) _, .inl ⟨e1 ▸ e2, by rw [e1], (HW0.out.far _ (by simp only; omega) (by simp only; omega) (by simp only; omega)).far _ (by simp only; omega) (by simp only; omega) (by simp only; omega)⟩⟩
    · rw [((HB1.out.set 0 _).set_other _ _ (by simp)).cell]; rfl
    · rw [((HB2.out.set_other _ _ (by simp)).set 0 _).cell]; rfl
  · have hO := HCC.out.1 (by assumption)
    refine postM_plain rfl (results_two rfl _ _ rfl rfl (x := 0) (y := false) ?_ ?_) ⟨((Two.ofKeeps HK0.out).setCell (by rw [HBE.out]; simp only; omega) _).setCell (by rw [HBE.out]; simp only; omega) _, .inr ⟨by have := HP.out.neg hO; omega, rfl⟩⟩
    · rw [((HB1.out.set 0 _).set_other _ _ (by simp)).cell]; rfl
    · rw [((HB2.out.set_other _ _ (by simp)).set 0 _).cell]; rfl
  · have hO : ¬ O (codeN k s n) := fun h => by have := HCC.out.2 h; simp_all only [Bool.false_eq_true, not_true_eq_false, reduceCtorEq]
    have HO := Lib.hid hO
    clear hO HMO HCC s0 s1 s2 f1 f2 c0 c1 c2
    rw [HZ0.out]
    refine (itokens_any a n c s _ HT.out.n2 HT.out.n5 ((HI.out.keeps HK0.out).keeps (Keeps.alloc _ _))).mono ?_
    rintro e w2 ⟨g, c2, rfl, -, -, -, -, hk2⟩
    have HK2 : Hid (Keeps w0 w2) := Lib.hid ((Keeps.alloc w0 _).step hk2)
    have HB3 : Hid (Blk w2 (B + 1 + 1 + 1) 3 #[.int .i64 0]) := Lib.hid ((blk_at HZ0.out (Blk.new w0 _ _)).keeps hk2)
    have HW2 := Lib.hid (HW0.out.keeps HK2.out)
    have HB0' := Lib.hid (HB0.out.keeps HK2.out)
    have HB1' := Lib.hid (HB1.out.keeps HK2.out)
    have HB2' := Lib.hid (HB2.out.keeps HK2.out)
    have HZ2 : Hid (B + 1 + 1 + 1 < w2.heap.size) := Lib.hid HB3.out.lt
    have s0 : w2.cell? ⟨B, 0, none⟩ = some (.pointer (some ⟨bw, 0, none⟩)) := by rw [HB0'.out.cell]; rfl
    have s1 : w2.cell? ⟨B + 1, 0, none⟩ = some (.int .i64 0) := by rw [HB1'.out.cell]; rfl
    have s2 : w2.cell? ⟨B + 1 + 1, 0, none⟩ = some (.bool false) := by rw [HB2'.out.cell]; rfl
    have s3 : w2.cell? ⟨B + 1 + 1 + 1, 0, none⟩ = some (.int .i64 0) := by rw [HB3.out.cell]; rfl
    have f1 := HB1'.out.frozen 0
    have f2 := HB2'.out.frozen 0
    have f3 := HB3.out.frozen 0
    have c0 : w2.cell? ⟨bw, 0, none⟩ = some (.int .i64 k) := by rw [HW2.out.box.cell]; rfl
    have c1 : w2.cell? ⟨bw, 1, none⟩ = some (.map (some b1)) := by rw [HW2.out.box.cell]; rfl
    have c2 : w2.cell? ⟨bw, 2, none⟩ = some (.map (some b2)) := by rw [HW2.out.box.cell]; rfl
    clear hk2
    have hL : (tks n s n).length = cntB (tokB n s) n := tks_len n s n
    obtain ⟨L, hLE⟩ : ∃ L, L = (tks n s n).length := ⟨_, rfl⟩
    have hL5 := tks_bd (n := n) (s := s) n
    have hn5 := HT.out.n5
    rw [← hLE] at hL hL5 ⊢
    have HLE := Lib.hid hLE
    have HL := Lib.hid hL
    clear hLE hL
    by_cases hc : 1 < L
    · have HC := Lib.hid hc
      have hci : (1 : Int) < (L : Int) := by omega
      go_wp2_with (first | (refine wp_store rfl _ _ _ (.inl rfl) rfl HW2.out.opens (by have := HPW.out; omega) _ rfl rfl _ rfl (by have := HPW.out; omega) ?_; intro w3 hs3 hg3; have HW3 := Lib.hid (HW2.out.open hcode hs3 hg3); have HG3 := Lib.hid hg3; have c30 : w3.cell? ⟨bw, 0, none⟩ = some (.int .i64 k) := (by rw [HW3.out.box.cell]; rfl); have s30 : w3.cell? ⟨B, 0, none⟩ = some (.pointer (some ⟨bw, 0, none⟩)) := (by rw [(HB0'.out.grown hg3 (by have := HLT.out.2.2; simp; omega)).cell]; rfl); clear hs3 hg3))
      have hk3 : Two b1 b2 w w3 := ((Two.ofKeeps HK0.out).keepsTo HK2.out).trans (Two.right HG3.out rfl)
      have HT3 := Lib.hid hk3
      refine (moves_any k n c a s w3 (hk3.ints hW' HI.out)).mono ?_
      rintro e w4 ⟨sb, kb, rfl, hrd, hsb, hkb, hk4⟩
      have HSK : Hid (B + 1 + 1 + 1 < sb ∧ B + 1 + 1 + 1 < kb) := Lib.hid (by have := HZ2.out; have := HG3.out.size; omega)
      have hne : ∀ j, B ≤ j → some j ≠ some b2 := fun j hj e => by have := HLT.out.2.2; simp at e; omega
      have HJ0 : Hid (FJ k n c bw b1 b2 B sb kb f a s (fun z => O z ∨ z = codeN k s n) w 0 w4) := Lib.hid ⟨(HB0'.out.grown HG3.out (hne _ (by omega))).keeps hk4, (HB1'.out.grown HG3.out (hne _ (by omega))).keeps hk4, (HB2'.out.grown HG3.out (hne _ (by omega))).keeps hk4, ⟨0, (HB3.out.grown HG3.out (hne _ (by omega))).keeps hk4, PM.start k n f s⟩, HW3.out.keeps hk4, hrd, hk3.keepsTo hk4⟩
      have HZ4 : Hid (B + 1 + 1 + 1 < w4.heap.size) := Lib.hid (by have := HJ0.out.most; obtain ⟨m, hm, _⟩ := this; exact hm.lt)
      clear hk3 hrd hk4 hne hsb hkb
      have hsz : w.heap.size ≤ w4.heap.size := HJ0.out.two.size
      have hb1 : b1 < w4.heap.size := HJ0.out.ws.memo.lt
      have hb2 : b2 < w4.heap.size := HJ0.out.ws.opens.lt
      have HSZ := Lib.hid (And.intro hsz (And.intro hb1 hb2))
      go_wp2_with fail
      refine wp_overS 10 rfl (fun _ _ => rfl) (moves_iter k n c sb kb w4.heap.size a s HT.out) keeps_rest (FJ k n c bw b1 b2 B sb kb f a s (fun z => O z ∨ z = codeN k s n) w) (fun W => FX b1 b2 B w W ∧ f (codeN k s n) = -1)
        (fun i W W' h m => h.moves m hb1 hb2 hsz) (fun W W' h m => ⟨h.1.moves m hsz, h.2⟩) (fun i W W' h m => h.moves (Moves.ofKeeps m) hb1 hb2 hsz) (fun i W h => h.rd) (fun i v W W' h m => let ⟨g, e, hI⟩ := h; ⟨g, e, m.ints hI⟩) HJ0.out ?assign ?body ?done ?stop
      case assign =>
        intro l i v W K _ hK
        gi_wp2
        exact hK
      case stop =>
        rintro W ⟨hx, hf1⟩ hD
        have HX := Lib.hid hx
        have HD := Lib.hid hD
        clear hx
        gi_wp2
        refine postM_ret rfl HD.out (results_two rfl _ _ rfl rfl (x := 0) (y := false) ?_ ?_) ⟨HX.out.two.put HSZ.out.1 _, .inr ⟨hf1, rfl⟩⟩
        · rw [(HX.out.r.put (by have := HZ4.out; omega) _).cell]; rfl
        · rw [(HX.out.ok.put (by have := HZ4.out; omega) _).cell]; rfl
      case done =>
        rintro W hj hD
        have HJ := Lib.hid hj
        have HD := Lib.hid hD
        obtain ⟨m, hm, hpm⟩ := hj.most
        have HM := Lib.hid hm
        obtain ⟨hmf, hm0⟩ := hpm.last HF.out HT.out (by rw [← HL.out]; exact HC.out)
        have HMF := Lib.hid hmf
        have HM0 := Lib.hid hm0
        have s0 : W.cell? ⟨B, 0, none⟩ = some (.pointer (some ⟨bw, 0, none⟩)) := by rw [hj.p.cell]; rfl
        have c2 : W.cell? ⟨bw, 2, none⟩ = some (.map (some b2)) := by rw [hj.ws.box.cell]; rfl
        clear hj hD hm hpm hmf hm0
        simp only [Exit.inBlock, Exit.then]
        go_at_K
        go_wp2_with (first | (refine wp_strike rfl _ _ rfl rfl HJ.out.ws.opens _ rfl (codeN k s n) rfl (by have := HPW.out; omega) ?_; intro w5 hs5 hg5))
        obtain ⟨q1, q2, q3⟩ := HLT.out
        have hD := HD.out
        have hWs : WS w5 bw b1 b2 k (k ^ n) f O := HJ.out.ws.shut HO.out hs5 hg5
        have hne5 : ∀ j, B ≤ j → some j ≠ some b2 := fun j hj e => by simp at e; omega
        have hne6 : ∀ j, B ≤ j → some j ≠ some b1 := fun j hj e => by simp at e; omega
        have hst := memo_store (w := w5.drew) (hWs.memo.keeps (Keeps.drew1 _)) (by have := HPW.out; omega) (codeN k s n) hcode HWF.out HM0.out
        rw [← HMF.out] at hst
        obtain ⟨w6, hrun, hm6, hg6⟩ := hst
        have HS6 := Lib.hid ((hWs.keeps (Keeps.drew1 w5)).stored hm6 hg6)
        have HTW : Hid (Two b1 b2 w w6) := Lib.hid (((HJ.out.two.trans (Two.right hg5 rfl)).keepsTo (Keeps.drew1 _)).trans (Two.left hg6 rfl))
        have e0 := (HJ.out.p.grown hg5 (hne5 _ (by omega)))
        have e1 := (((HJ.out.r.grown hg5 (hne5 _ (by omega))).keeps (Keeps.drew1 w5)).grown hg6 (hne6 _ (by omega)))
        have e2 := (((HJ.out.ok.grown hg5 (hne5 _ (by omega))).keeps (Keeps.drew1 w5)).grown hg6 (hne6 _ (by omega)))
        have e3 := (HM.out.grown hg5 (hne5 _ (by omega)))
        have e3' := ((e3.keeps (Keeps.drew1 w5)).grown hg6 (hne6 _ (by omega)))
        have hD6 : w6.heap[w4.heap.size]? = some (.deferred (some [])) := by
          have hz := HZ4.out
          have l1 := (Array.getElem?_eq_some_iff.1 hD).1
          have l2 : w4.heap.size < w5.heap.size := Nat.lt_of_lt_of_le l1 hg5.size
          have d1 := (hg5.block w4.heap.size l1 (hne5 _ (by omega))).trans hD
          exact (hg6.block w4.heap.size (by simp; omega) (hne6 _ (by omega))).trans (((Keeps.drew1 w5).block _ l2).trans d1)
        have HD6 := Lib.hid hD6
        have E1 := Lib.hid e1
        have E2 := Lib.hid e2
        have r0 : w5.cell? ⟨B, 0, none⟩ = some (.pointer (some ⟨bw, 0, none⟩)) := by rw [e0.cell]; rfl
        have r1 : w5.cell? ⟨bw, 1, none⟩ = some (.map (some b1)) := by rw [hWs.box.cell]; rfl
        have r3 : w5.cell? ⟨B + 1 + 1 + 1, 0, none⟩ = some (.int .i64 m) := by rw [e3.cell]; rfl
        have t3 : w6.cell? ⟨B + 1 + 1 + 1, 0, none⟩ = some (.int .i64 m) := by rw [e3'.cell]; rfl
        have t1 : w6.cell? ⟨B + 1, 0, none⟩ = some (.int .i64 0) := by rw [e1.cell]; rfl
        have t2 : w6.cell? ⟨B + 1 + 1, 0, none⟩ = some (.bool false) := by rw [e2.cell]; rfl
        have g1 := e1.frozen 0
        have g2 := e2.frozen 0
        clear e0 e1 e2 e3 e3' hm6 hg6 hs5 hg5 hWs hD hD6
        simp only [Act.put]
        go_region
        all_goals go_wp2_with fail
        all_goals
          have hz := HZ4.out
          refine postM_ret rfl ?_ (results_two rfl _ _ rfl rfl (x := m) (y := true) ?_ ?_) ⟨((HTW.out.setCell (by rw [HBE.out]; simp only; omega) _).setCell (by rw [HBE.out]; simp only; omega) _).put HSZ.out.1 _, .inl ⟨HM0.out, by rw [HMF.out], ((HS6.out.far _ (by simp only; omega) (by simp only; omega) (by simp only; omega)).far _ (by simp only; omega) (by simp only; omega) (by simp only; omega)).put _ (by omega) (by omega) (by omega)⟩⟩
          · exact (Below.heap_setCell _ _ _ _ (by simp only; omega)).trans ((Below.heap_setCell _ _ _ _ (by simp only; omega)).trans HD6.out)
          · rw [(((E1.out.set 0 _).set_other _ _ (by simp)).put (by omega) _).cell]; rfl
          · rw [(((E2.out.set_other _ _ (by simp)).set 0 _).put (by omega) _).cell]; rfl
      case body =>
        rintro l i v W hi hsW hj ⟨gg, rfl, hIg⟩
        have ht := tks_at n s i hi
        have HJ := Lib.hid hj
        have HG := Lib.hid hIg
        have s0 : W.cell? ⟨B, 0, none⟩ = some (.pointer (some ⟨bw, 0, none⟩)) := by rw [hj.p.cell]; rfl
        have HPM : Hid (∀ v : Int, v = f (chS k n s ((tks n s n).getD i 0)) → 0 ≤ v → ∀ m, PM k n f s i m → PM k n f s (i + 1) (max m (v + 1))) := Lib.hid (fun v h1 h2 m hm => hm.next h1 h2)
        have HNEG : Hid (f (chS k n s ((tks n s n).getD i 0)) = -1 → f (codeN k s n) = -1) := Lib.hid (sol_neg HF.out HT.out (by rw [← HL.out]; exact HC.out) ht.1 ht.2)
        have HUP : Hid (f (chS k n s ((tks n s n).getD i 0)) < ((k ^ n : Nat) : Int)) := Lib.hid ((HF.out.toD (by have := HT.out.k2; omega)).lt (by have := HT.out.k2; omega) (code_lt n (mov_lt (by have := HT.out.k2; omega) HT.out.lt _ ht.1)))
        have hcall := HR.out HO.out (by rw [← HL.out]; exact HC.out) _ ht.1 ht.2 gg W HG.out hj.ws
        clear hj hIg ht hi
        unfold FromAns at hcall
        generalize f (chS k n s ((tks n s n).getD i 0)) = fv at *
        dsimp only [List.setIfInBounds_toArray, List.set_cons_zero, List.set_cons_succ]
        gi_wp2
        refine ⟨trivial, (CallsIn.inRound l (callsIn_wide.2 hcall)).mono ?_⟩
        rintro e W2 ⟨htw, ⟨h0, rfl, hws⟩ | ⟨hm1, rfl⟩⟩
        · have hv1 := HUP.out
          have hv2 := HPW.out
          have hne : ∀ j, B ≤ j → j ≠ b1 ∧ j ≠ b2 := fun j hj => ⟨by have := HLT.out.2.1; omega, by have := HLT.out.2.2; omega⟩
          obtain ⟨m, hm, hpm⟩ := HJ.out.most
          have hm' := htw.blk hm (hne _ (by omega)).1 (hne _ (by omega)).2
          have HM := Lib.hid hm'
          have HTW := Lib.hid htw
          have HWS := Lib.hid hws
          have HNX := Lib.hid (HPM.out fv rfl h0 m hpm)
          have s3 : W2.cell? ⟨B + 1 + 1 + 1, 0, none⟩ = some (.int .i64 m) := by rw [hm'.cell]; rfl
          have f3 := hm'.frozen 0
          have hm0 := hpm.1
          have hwr : wrap64 (fv + 1) = fv + 1 := by unfold wrap64; omega
          have HFIN : Hid (∀ x : Int, x = max m (fv + 1) → roundEnd w4.heap.size (FJ k n c bw b1 b2 B sb kb f a s (fun z => O z ∨ z = codeN k s n) w (i + 1)) (fun W => FX b1 b2 B w W ∧ f (codeN k s n) = -1) W Exit.normal ({ tmps := #[], defers := [] } : Act) (W2.setCell ⟨B + 1 + 1 + 1, 0, none⟩ (.int .i64 x))) := Lib.hid (fun x hx => by
            obtain ⟨q1, q2, q3⟩ := HLT.out
            obtain ⟨z1, z2⟩ := HSK.out
            have hz := HZ4.out
            have tw : Two b1 b2 w (W2.setCell ⟨B + 1 + 1 + 1, 0, none⟩ (.int .i64 x)) := (HJ.out.two.trans htw).setCell (by rw [HBE.out]; simp only; omega) _
            refine ⟨(htw.above HSZ.out.2.1 HSZ.out.2.2).setCell (by simp only; omega) _, ⟨(htw.blk HJ.out.p (hne _ (by omega)).1 (hne _ (by omega)).2).set_other _ _ (by simp only; omega), (htw.blk HJ.out.r (hne _ (by omega)).1 (hne _ (by omega)).2).set_other _ _ (by simp only; omega), (htw.blk HJ.out.ok (hne _ (by omega)).1 (hne _ (by omega)).2).set_other _ _ (by simp only; omega), ⟨x, hm'.set 0 _, ?_⟩, hws.far _ (by simp only; omega) (by simp only; omega) (by simp only; omega), ⟨?_, ?_, tw.ints hW' HI.out⟩, tw⟩⟩
            · rw [hx]; exact HPM.out fv rfl h0 m hpm
            · exact (World.cell?_of_block (Below.heap_setCell _ _ _ _ (by simp only; omega))).trans (htw.cell HJ.out.ws HJ.out.rd.1)
            · exact (World.cell?_of_block (Below.heap_setCell _ _ _ _ (by simp only; omega))).trans (htw.cell HJ.out.ws HJ.out.rd.2.1))
          clear hm hpm hm' htw hws hne
          gi_wp2
          · exact HFIN.out _ (by first | (rw [hwr]; omega) | omega)
          · exact HFIN.out _ (by first | omega | (simp only [hwr] at *; omega))
        · have hne : ∀ j, B ≤ j → j ≠ b1 ∧ j ≠ b2 := fun j hj => ⟨by have := HLT.out.2.1; omega, by have := HLT.out.2.2; omega⟩
          have hr' := htw.blk HJ.out.r (hne _ (by omega)).1 (hne _ (by omega)).2
          have hk' := htw.blk HJ.out.ok (hne _ (by omega)).1 (hne _ (by omega)).2
          have HR2 := Lib.hid hr'
          have HK2 := Lib.hid hk'
          have HTW := Lib.hid htw
          have HM1 := Lib.hid hm1
          have s1 : W2.cell? ⟨B + 1, 0, none⟩ = some (.int .i64 0) := by rw [hr'.cell]; rfl
          have s2 : W2.cell? ⟨B + 1 + 1, 0, none⟩ = some (.bool false) := by rw [hk'.cell]; rfl
          have f1 := hr'.frozen 0
          have f2 := hk'.frozen 0
          clear hr' hk' htw hne hm1
          gi_wp2
          obtain ⟨q1, q2, q3⟩ := HLT.out
          have hz := HZ4.out
          exact ⟨((HTW.out.above HSZ.out.2.1 HSZ.out.2.2).setCell (by simp only; omega) _).setCell (by simp only; omega) _, ⟨(HR2.out.set 0 _).set_other _ _ (by simp), (HK2.out.set_other _ _ (by simp)).set 0 _, ((HJ.out.two.trans HTW.out).setCell (by rw [HBE.out]; simp only; omega) _).setCell (by rw [HBE.out]; simp only; omega) _⟩, HNEG.out HM1.out⟩
    · have hci : ¬ (1 : Int) < (L : Int) := by omega
      have hfx : f (codeN k s n) = 0 := HF.out.shut s HT.out.lt (by rw [← HL.out]; omega)
      have HFX := Lib.hid hfx
      clear hfx
      go_wp2_with fail
      have hst := memo_store (w := w2.drew) (HW2.out.memo.keeps (Keeps.drew1 _)) (by have := HPW.out; omega) (codeN k s n) hcode HWF.out (by rw [HFX.out]; omega)
      rw [HFX.out] at hst
      obtain ⟨w4, hrun, hm4, hg4⟩ := hst
      have HS4 := Lib.hid ((HW2.out.keeps (Keeps.drew1 w2)).stored hm4 hg4)
      have HG4 := Lib.hid hg4
      have e1 := (HB1'.out.keeps (Keeps.drew1 w2)).grown hg4 (by have := HLT.out.2.1; simp; omega)
      have e2 := (HB2'.out.keeps (Keeps.drew1 w2)).grown hg4 (by have := HLT.out.2.1; simp; omega)
      have e3 := (HB3.out.keeps (Keeps.drew1 w2)).grown hg4 (by have := HLT.out.2.1; simp; omega)
      have E1 := Lib.hid e1
      have E2 := Lib.hid e2
      have t3 : w4.cell? ⟨B + 1 + 1 + 1, 0, none⟩ = some (.int .i64 0) := by rw [e3.cell]; rfl
      have t1 : w4.cell? ⟨B + 1, 0, none⟩ = some (.int .i64 0) := by rw [e1.cell]; rfl
      have t2 : w4.cell? ⟨B + 1 + 1, 0, none⟩ = some (.bool false) := by rw [e2.cell]; rfl
      have g1 := e1.frozen 0
      have g2 := e2.frozen 0
      clear e1 e2 e3 hm4 hg4
      go_region
      all_goals go_wp2_with fail
      all_goals
        obtain ⟨h1, h2, h3⟩ := HLT.out
        refine postM_plain rfl (results_two rfl _ _ rfl rfl (x := 0) (y := true) ?_ ?_) ⟨(((((Two.ofKeeps HK0.out).keepsTo HK2.out).keepsTo (Keeps.drew1 _)).trans (Two.left HG4.out rfl)).setCell (by rw [HBE.out]; simp only; omega) _).setCell (by rw [HBE.out]; simp only; omega) _, .inl ⟨by rw [HFX.out]; omega, by rw [HFX.out], (HS4.out.far _ (by simp only; omega) (by simp only; omega) (by simp only; omega)).far _ (by simp only; omega) (by simp only; omega) (by simp only; omega)⟩⟩
        · rw [((E1.out.set 0 _).set_other _ _ (by simp)).cell]; rfl
        · rw [((E2.out.set_other _ _ (by simp)).set 0 _).cell]; rfl
theorem from_any (k n bw b1 b2 : Nat) (f : Nat → Int) (hf : Sol k n f) : ∀ (d c : Nat) (O : Nat → Prop) (s : Nat → Nat) (a : Option Addr) (w : World), TokS k n s → Ints w a n (nf s) → WS w bw b1 b2 k (k ^ n) f O → Free d (k ^ n) O → Path f O (codeN k s n) →
    Calls Try.prog 24 #[.pointer (some ⟨bw, 0, none⟩), .slice a n c] w (FromAns k n bw b1 b2 f O (codeN k s n) w)
  | 0, c, O, s, a, w, hT, hI, hW, hF, hP => from_round k n c bw b1 b2 f hf a s O w hT hI hW hP (fun hO => absurd (hF.no (code_lt n hT.lt)) hO)
  | d + 1, c, O, s, a, w, hT, hI, hW, hF, hP => from_round k n c bw b1 b2 f hf a s O w hT hI hW hP (fun hO hc i hi ti g w' hI' hW' =>
      from_any k n bw b1 b2 f hf d n (fun z => O z ∨ z = codeN k s n) (movF k s i) (some ⟨g, 0, none⟩) w' ⟨hT.k2, hT.k5, hT.n2, hT.n5, fun j hj => mov_lt (by have := hT.k2; omega) hT.lt i hi j hj⟩ hI' hW' (hF.step (code_lt n hT.lt) hO) (hP.child hf hT hc hi ti))
end Go.Proofs.Ytpgipkcbdppplaa
