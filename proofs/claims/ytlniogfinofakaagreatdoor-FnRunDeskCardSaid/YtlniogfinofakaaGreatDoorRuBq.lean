/-
  What the desk's map holds; the canonical numbers of a text. No condition.
-/
import Derived.Test.YtlniogfinofakaaGreatDoorRuBp
import Derived.Test.YtlniogfinofakaaGreatDoorRuAr
import Derived.Test.YtlniogfinofakaaGreatDoorRuBe
namespace Go.Proofs.YtlniogfinofakaaGreatDoor
set_option maxRecDepth 100000
open Go.RowKit Go.Lib
set_option linter.unusedVariables false

def b_elect : ByteArray := ⟨#[101, 108, 101, 99, 116]⟩
def b_tokens : ByteArray := ⟨#[116, 111, 107, 101, 110, 115]⟩
def b_muddy : ByteArray := ⟨#[109, 117, 100, 100, 121]⟩
def b_some : ByteArray := ⟨#[115, 111, 109, 101]⟩
def b_three : ByteArray := ⟨#[116, 104, 114, 101, 101]⟩
def b_most : ByteArray := ⟨#[109, 111, 115, 116]⟩
def b_odd : ByteArray := ⟨#[111, 100, 100]⟩
def namesB : List ByteArray := [b_some, b_three, b_most, b_odd]
def keysN (i : Nat) : List ByteArray := [b_elect, b_tokens, b_muddy] ++ namesB.take i
theorem keys_next {i : Nat} (h : i < 4) : keysN (i + 1) = keysN i ++ [namesB.getD i ByteArray.empty] := by
  rcases i with _ | _ | _ | _ | i
  · rfl
  · rfl
  · rfl
  · rfl
  · omega
theorem keys_new : ∀ i : Fin 4, ∀ k ∈ keysN i.val, k.data ≠ (namesB.getD i.val ByteArray.empty).data := by decide +kernel
/-- A tell, as the map holds it. -/
def IsTell (w : World) (v : Value) (k : ByteArray) : Prop :=
  (k = b_elect ∧ v = .func (.func 41) #[] #[]) ∨ (k = b_tokens ∧ v = .func (.func 42) #[] #[]) ∨ (k = b_muddy ∧ v = .func (.func 43) #[] #[]) ∨
  (k ∈ namesB ∧ ∃ c, v = .func (.func 66) #[] #[.pointer (some ⟨c, 0, none⟩)] ∧ Blk w c 9 #[.string k])
theorem IsTell.keeps {w w' : World} {v : Value} {k : ByteArray} (h : IsTell w v k) (hk : Keeps w w') : IsTell w' v k := by
  rcases h with h | h | h | ⟨h1, c, h2, h3⟩
  · exact .inl h
  · exact .inr (.inl h)
  · exact .inr (.inr (.inl h))
  · exact .inr (.inr (.inr ⟨h1, c, h2, h3.keeps hk⟩))
theorem IsTell.put {w w' : World} {v : Value} {k : ByteArray} {b : Nat} {l : List (ByteArray × Value)} (h : IsTell w v k) (hm : FMap w b l) (hk : ∀ d, d ≠ b → w'.heap[d]? = w.heap[d]?) : IsTell w' v k := by
  rcases h with h | h | h | ⟨h1, c, h2, h3⟩
  · exact .inl h
  · exact .inr (.inl h)
  · exact .inr (.inr (.inl h))
  · refine .inr (.inr (.inr ⟨h1, c, h2, ?_⟩))
    have hne : c ≠ b := by
      rintro rfl
      have e : w.heap[c]? = some (.cells #[.string k] 9 (0, 0)) := h3
      rw [show w.heap[c]? = some (.map (ents l 0).toArray l.length) from hm] at e
      cases e
    exact (hk c hne).trans h3
theorem tell_calls {w : World} {v : Value} {k : ByteArray} (h : IsTell w v k) : ∃ (fn : Nat) (caps : Array Value), v = .func (.func fn) #[] caps ∧
    (∀ (args : Array Value) (w : World), (callFunc fn args).run Tryz.prog w = .ok (.enter fn args) w) ∧
    ∀ W, Keeps w W → ∀ A n c L, NumsAt W A n c L → Calls Tryz.prog fn (#[.slice A n c] ++ caps) W (TellAns (answF k.data.toList L) W) := by
  rcases h with ⟨rfl, rfl⟩ | ⟨rfl, rfl⟩ | ⟨rfl, rfl⟩ | ⟨hk, b, rfl, hb⟩
  · exact ⟨_, _, rfl, fun _ _ => rfl, fun W _ A n c L hL => tellElect_any A n c L W hL⟩
  · exact ⟨_, _, rfl, fun _ _ => rfl, fun W _ A n c L hL => tellTokens_any A n c L W hL⟩
  · exact ⟨_, _, rfl, fun _ _ => rfl, fun W _ A n c L hL => tellMuddy_any A n c L W hL⟩
  · refine ⟨_, _, rfl, fun _ _ => rfl, fun W kW A n c L hL => ?_⟩
    have hc : W.cell? ⟨b, 0, none⟩ = some (.string k) := (hb.keeps kW).cell 0
    simp only [namesB, List.mem_cons, List.not_mem_nil, or_false] at hk
    rcases hk with rfl | rfl | rfl | rfl
    · exact tellCrowd1_any b_some 2 [0, 1] _ _ b A n c L W (by omega) iRulesOf_some rulB_some (answF_some L) hc hL
    · exact tellCrowd1_any b_three 4 [0, 0, 0, 1] _ _ b A n c L W (by omega) iRulesOf_three rulB_three (answF_three L) hc hL
    · exact tellCrowd1_any b_most 4 [0, 1, 0, 1] _ _ b A n c L W (by omega) iRulesOf_most rulB_most (answF_most L) hc hL
    · exact tellCrowd1_any b_odd 4 [0, 1, 0, 1] _ _ b A n c L W (by omega) iRulesOf_odd rulB_odd (answF_odd L) hc hL
theorem known_keys (k : ByteArray) : knownB k.data.toList = true ↔ k ∈ keysN 4 := by
  have e : ∀ (l : List UInt8), (k.data.toList = l ↔ k = ⟨l.toArray⟩) := fun l => by
    constructor
    · rintro rfl; rfl
    · rintro rfl; rfl
  unfold knownB
  simp only [Bool.or_eq_true, decide_eq_true_eq, e]
  show _ ↔ k ∈ [b_elect, b_tokens, b_muddy, b_some, b_three, b_most, b_odd]
  simp only [List.mem_cons, List.not_mem_nil, or_false, or_assoc]
  exact Iff.rfl
theorem tellCrowd_any (k : ByteArray) (w : World) :
    Calls Tryz.prog 44 #[.string k] w fun e w' => e = .returned (.func (.func 66) #[] #[.pointer (some ⟨w.heap.size, 0, none⟩)]) ∧ w' = w.alloc (.cells #[.string k] 9) := by
  have hmf : ∀ (fn : Fn) (first cap : Array Value) (w : World), (Instr.makeFunc fn first cap).run Tryz.prog w = .ok (.func fn first cap) w := fun _ _ _ _ => rfl
  go_enter Tryz.func44, Tryz.ntmps44
  go_wp2_with fail
  go_ret
  exact ⟨rfl, rfl⟩
theorem canons_len : ∀ (P : List (List UInt8)) (L : List Int), canons P = some L → L.length = P.length
  | [], L, h => by cases h; rfl
  | p :: q, L, h => by
    unfold canons at h
    cases hc : canon p with
    | none => rw [hc] at h; cases h
    | some v =>
      rw [hc] at h
      cases hq : canons q with
      | none => rw [hq] at h; cases h
      | some M => 
        rw [hq] at h
        cases h
        rw [List.length_cons, List.length_cons, canons_len q M hq]
theorem canons_bd : ∀ (P : List (List UInt8)) (L : List Int), canons P = some L → ∀ v ∈ L, -9223372036854775808 ≤ v ∧ v ≤ 9223372036854775807
  | [], L, h, v, hv => by cases h; cases hv
  | p :: q, L, h, v, hv => by
    unfold canons at h
    cases hc : canon p with
    | none => rw [hc] at h; cases h
    | some u =>
      rw [hc] at h
      cases hq : canons q with
      | none => rw [hq] at h; cases h
      | some M => 
        rw [hq] at h
        cases h
        rcases List.mem_cons.1 hv with rfl | hv
        · unfold canon at hc
          cases ha : atoiAll p with
          | ok x =>
            rw [ha] at hc
            simp only at hc
            split at hc
            · cases hc
              have := atoiAll_bounds ha
              exact ⟨by omega, by omega⟩
            · cases hc
          | _ => rw [ha] at hc; cases hc
        · exact canons_bd q M hq v hv
theorem nums_at {w' : World} {g c : Nat} {L : List Int} {P : List (List UInt8)} {base : Nat} (h : OwnInts w' base (some ⟨g, 0, none⟩) L.length c L) (hP : canons P = some L) (hlen : P.length ≤ 4294967281) (hv : Vars w') : NumsAt w' (some ⟨g, 0, none⟩) L.length c L := by
  have hl := canons_len P L hP
  refine ⟨rfl, ?_, ?_, by omega, h.ints, canons_bd P L hP, hv⟩
  · rcases h.2 with ⟨e, _⟩ | ⟨g', cap, cur, e, _, _, h4, _⟩
    · cases e
    · cases e; exact h4
  · rcases h.2 with ⟨e, _⟩ | ⟨g', cap, cur, e, _, _, h4, h5, _⟩
    · cases e
    · cases e; unfold maxLen at h5; omega
/-- errors.As at a wrong text, into an own cell. -/
theorem as_hit_any (N b : Nat) (old : Value) (w0 w : World) (hv : Vars w) (hk : Keeps w0 w) (hb : Blk w b 80 #[old]) (h0 : w0.heap.size ≤ b) :
    Calls Tryz.prog 48 #[.iface 80 (.pointer (some ⟨N, 0, none⟩)), .iface 82 (.pointer (some ⟨b, 0, none⟩))] w fun ev w' => ev = .returned (.bool true) ∧ Keeps w0 w' := by
  refine (as_hit ⟨N, 0, none⟩ ⟨b, 0, none⟩ old w hv.et (hb.cell 0) (hb.frozen 0)).mono ?_
  rintro e w' ⟨rfl, rfl⟩
  refine ⟨rfl, Below.setCell (hk.step ?_) h0 _⟩
  exact (((Keeps.alloc _ _).step (Keeps.alloc _ _)).step (Keeps.alloc _ _)).step (Keeps.alloc _ _)
end Go.Proofs.YtlniogfinofakaaGreatDoor
/-
  answer of the program. Conditions: the line is shorter than 2^32 - 15.
-/
namespace Go.Proofs.YtlniogfinofakaaGreatDoor
set_option maxRecDepth 100000
open Go.RowKit Go.Lib
set_option linter.unusedVariables false

def Told (w : World) (b : Nat) (i : Nat) : Prop := ∃ l, FMap w b l ∧ l.map (·.1) = keysN i ∧ ∀ p ∈ l, IsTell w p.2 p.1
theorem Told.keeps {w w' : World} {b i : Nat} (h : Told w b i) (k : Keeps w w') : Told w' b i := by
  obtain ⟨l, h1, h2, h3⟩ := h
  exact ⟨l, h1.keeps k, h2, fun p hp => (h3 p hp).keeps k⟩
theorem told_next {w0 w : World} {b i c : Nat} (h : Told w b i) (hi : i < 4) (hk : Keeps w0 w) (hb : w0.heap.size ≤ b) (hc : Blk w c 9 #[.string (namesB.getD i ByteArray.empty)]) :
    ∃ W', (Instr.mapUpdate 72 (.map (some b)) (.string (namesB.getD i ByteArray.empty)) (.func (.func 66) #[] #[.pointer (some ⟨c, 0, none⟩)])).run Tryz.prog w = .ok () W' ∧ Told W' b (i + 1) ∧ Keeps w0 W' ∧ ∀ d T cs, Blk w d T cs → Blk W' d T cs := by
  obtain ⟨l, h1, h2, h3⟩ := h
  have hnew : ∀ p ∈ l, p.1 ≠ namesB.getD i ByteArray.empty := fun p hp e => by
    have hm : p.1 ∈ keysN i := by rw [← h2]; exact List.mem_map_of_mem hp
    exact keys_new ⟨i, hi⟩ p.1 hm (by rw [e])
  obtain ⟨W', hr, hF, hk', hs, hd⟩ := fmap_put h1 hk hb (namesB.getD i ByteArray.empty) (.func (.func 66) #[] #[.pointer (some ⟨c, 0, none⟩)]) hnew
  have hblk : ∀ d T cs, Blk w d T cs → Blk W' d T cs := fun d T cs hbk => by
    have hne : d ≠ b := by
      rintro rfl
      have e : w.heap[d]? = some (.cells cs T (0, 0)) := hbk
      rw [show w.heap[d]? = some (.map (ents l 0).toArray l.length) from h1] at e
      cases e
    exact (hd d hne).trans hbk
  refine ⟨W', hr, ⟨_, hF, ?_, fun p hp => ?_⟩, hk', hblk⟩
  · rw [List.map_append, h2, keys_next hi]; rfl
  · rcases List.mem_append.1 hp with hp | hp
    · exact (h3 p hp).put h1 hd
    · rw [List.mem_singleton] at hp
      subst hp
      refine .inr (.inr (.inr ⟨?_, c, rfl, hblk _ _ _ hc⟩))
      have : i < namesB.length := hi
      rw [List.getD_eq_getElem?_getD, List.getElem?_eq_getElem this]
      exact List.getElem_mem this
theorem told_start (w : World) : ∃ W1 W2 W3, (Instr.mapUpdate 72 (.map (some w.heap.size)) (.string ⟨#[101, 108, 101, 99, 116]⟩) (.func (.func 41) #[] #[])).run Tryz.prog (w.alloc (.map #[] 0)) = .ok () W1 ∧
    (Instr.mapUpdate 72 (.map (some w.heap.size)) (.string ⟨#[116, 111, 107, 101, 110, 115]⟩) (.func (.func 42) #[] #[])).run Tryz.prog W1 = .ok () W2 ∧
    (Instr.mapUpdate 72 (.map (some w.heap.size)) (.string ⟨#[109, 117, 100, 100, 121]⟩) (.func (.func 43) #[] #[])).run Tryz.prog W2 = .ok () W3 ∧
    Told W3 w.heap.size 0 ∧ Keeps w W3 := by
  obtain ⟨W1, r1, f1, k1, _, _⟩ := fmap_put (fmap_new w) (Keeps.alloc w _) (Nat.le_refl _) b_elect (.func (.func 41) #[] #[]) (fun p hp => absurd hp List.not_mem_nil)
  obtain ⟨W2, r2, f2, k2, _, _⟩ := fmap_put f1 k1 (Nat.le_refl _) b_tokens (.func (.func 42) #[] #[]) (fun p hp => by
    rw [List.nil_append, List.mem_singleton] at hp
    subst hp
    exact fun e => absurd (congrArg ByteArray.data e) (by decide))
  obtain ⟨W3, r3, f3, k3, _, _⟩ := fmap_put f2 k2 (Nat.le_refl _) b_muddy (.func (.func 43) #[] #[]) (fun p hp => by
    simp only [List.nil_append, List.cons_append, List.mem_cons, List.not_mem_nil, or_false] at hp
    rcases hp with rfl | rfl
    · exact fun e => absurd (congrArg ByteArray.data e) (by decide)
    · exact fun e => absurd (congrArg ByteArray.data e) (by decide))
  refine ⟨W1, W2, W3, r1, r2, r3, ⟨_, f3, rfl, fun p hp => ?_⟩, k3⟩
  simp only [List.nil_append, List.cons_append, List.mem_cons, List.not_mem_nil, or_false] at hp
  rcases hp with rfl | rfl | rfl
  · exact .inl ⟨rfl, rfl⟩
  · exact .inr (.inl ⟨rfl, rfl⟩)
  · exact .inr (.inr (.inl ⟨rfl, rfl⟩))
theorem told_at {w : World} {b : Nat} (h : Told w b 4) (k : ByteArray) :
    (knownB k.data.toList = false ∧ (Instr.lookup 72 (.map (some b)) (.string k) true).run Tryz.prog w = .ok (.tuple #[.nilFunc, .bool false]) w) ∨
    (knownB k.data.toList = true ∧ ∃ v, IsTell w v k ∧ (Instr.lookup 72 (.map (some b)) (.string k) true).run Tryz.prog w = .ok (.tuple #[v, .bool true]) w) := by
  obtain ⟨l, h1, h2, h3⟩ := h
  by_cases hm : ∃ p ∈ l, p.1 = k
  · obtain ⟨v, hv, hr⟩ := fmap_yes h1 k hm
    exact .inr ⟨(known_keys k).2 (by rw [← h2]; exact List.mem_map.2 ⟨_, hv, rfl⟩), v, h3 _ hv, hr⟩
  · have hn : ∀ p ∈ l, p.1 ≠ k := fun p hp e => hm ⟨p, hp, e⟩
    refine .inl ⟨?_, fmap_no h1 k hn⟩
    cases hb : knownB k.data.toList with
    | false => rfl
    | true =>
      have h := (known_keys k).1 hb
      rw [← h2] at h
      obtain ⟨p, hp, e⟩ := List.mem_map.1 h
      exact absurd e (hn p hp)
theorem cut_le (s sep : List UInt8) : (cut s sep).1.length ≤ s.length ∧ (cut s sep).2.1.length ≤ s.length := by
  unfold cut
  split
  · simp only [List.length_take, List.length_drop]; omega
  · simp
set_option maxHeartbeats 8000000 in
theorem iAnswer_any (s : ByteArray) (w : World) (hs : s.size < 4294967281) (hv : Vars w) :
    Calls Tryz.prog 14 #[.string s] w fun e w' => e = .returned (.string ⟨(answ s.data.toList).toArray⟩) ∧ Keeps w w' := by
  have HV := Lib.hid hv
  have HA := Lib.hid (answ_cut s.data.toList)
  have CU := Lib.hid (fun w1 (k : Keeps w w1) => cut_any s w1 hs (HV.out.keeps k))
  obtain ⟨hP1, hP2⟩ := cut_le s.data.toList [32]
  have hss : s.data.toList.length = s.size := by simp
  obtain ⟨W1, W2, W3, r1, r2, r3, hT, hK⟩ := told_start w
  have HT := Lib.hid hT
  have HK := Lib.hid hK
  clear hv hT hK
  have hmm := fmap_make w
  go_enter Tryz.func14, Tryz.ntmps14
  go_wp2_with fail
  obtain ⟨D, hD⟩ : ∃ D, D = W3.heap.size := ⟨_, rfl⟩
  have HB4 : Hid (Blk (W3.alloc (.cells #[.string ⟨#[115, 111, 109, 101]⟩, .string ⟨#[116, 104, 114, 101, 101]⟩, .string ⟨#[109, 111, 115, 116]⟩, .string ⟨#[111, 100, 100]⟩] 9)) D 9 #[.string ⟨#[115, 111, 109, 101]⟩, .string ⟨#[116, 104, 114, 101, 101]⟩, .string ⟨#[109, 111, 115, 116]⟩, .string ⟨#[111, 100, 100]⟩]) := Lib.hid (by rw [hD]; exact Blk.new W3 _ _)
  have HT4 := Lib.hid (HT.out.keeps (Keeps.alloc W3 (.cells #[.string ⟨#[115, 111, 109, 101]⟩, .string ⟨#[116, 104, 114, 101, 101]⟩, .string ⟨#[109, 111, 115, 116]⟩, .string ⟨#[111, 100, 100]⟩] 9)))
  have HK4 := Lib.hid (HK.out.step (Keeps.alloc W3 (.cells #[.string ⟨#[115, 111, 109, 101]⟩, .string ⟨#[116, 104, 114, 101, 101]⟩, .string ⟨#[109, 111, 115, 116]⟩, .string ⟨#[111, 100, 100]⟩] 9)))
  rw [← hD]
  clear hD HT HK r1 r2 r3 hmm
  generalize W3.alloc (.cells #[.string ⟨#[115, 111, 109, 101]⟩, .string ⟨#[116, 104, 114, 101, 101]⟩, .string ⟨#[109, 111, 115, 116]⟩, .string ⟨#[111, 100, 100]⟩] 9) = W4 at *
  clear W1 W2 W3
  go_loopw [20] (fun q wr => ∃ i : Nat, i ≤ 4 ∧ q = .int .i64 i ∧ Hid (Told wr w.heap.size i) ∧ Hid (Blk wr D 9 #[.string ⟨#[115, 111, 109, 101]⟩, .string ⟨#[116, 104, 114, 101, 101]⟩, .string ⟨#[109, 111, 115, 116]⟩, .string ⟨#[111, 100, 100]⟩]) ∧ Hid (Keeps w wr)) (fun q _ => 4 - (intOf q).toNat)
  case atStart => exact ⟨0, by omega, rfl, HT4, HB4, HK4⟩
  case round =>
    clear HB4 HT4 HK4
    obtain ⟨i, hi, rfl, HT, HB, HK⟩ := hrel
    by_cases hlt : i < 4
    · have hii : (i : Int) < 4 := by omega
      have hc : wr.cell? ⟨D, i, none⟩ = some (.string (namesB.getD i ByteArray.empty)) := by
        rw [HB.out.cell i]
        rcases i with _ | _ | _ | _ | i
        · rfl
        · rfl
        · rfl
        · rfl
        · omega
      have HN := Lib.hid (fun w1 (c : Nat) (ht : Told w1 w.heap.size i) (k : Keeps w w1) hb => told_next ht hlt k (Nat.le_refl _) (c := c) hb)
      generalize namesB.getD i ByteArray.empty = nm at *
      have CT := Lib.hid (tellCrowd_any nm wr)
      go_wp2_with fail
      with_reducible refine (CT.out).mono ?_
      rintro e w1 ⟨rfl, hw1⟩
      have hk1 : Keeps wr w1 := by rw [hw1]; exact Keeps.alloc _ _
      have hb1 : Blk w1 wr.heap.size 9 #[.string nm] := by rw [hw1]; exact Blk.new _ _ _
      obtain ⟨W', hr, hT', hK', hbl⟩ := HN.out w1 wr.heap.size (HT.out.keeps hk1) (HK.out.step hk1) hb1
      have HT' := Lib.hid hT'
      have HK' := Lib.hid hK'
      have HB' := Lib.hid (hbl _ _ _ (HB.out.keeps hk1))
      clear hw1 hk1 hb1 hT' hK' hbl
      go_wp2_with fail
      go_roundw
      case rel => exact ⟨i + 1, by omega, by go_num, HT', HB', HK'⟩
      case measure => simp [intOf]; omega
    · obtain rfl : i = 4 := by omega
      clear HB hi
      have CU1 := Lib.hid (CU.out wr HK.out)
      obtain ⟨p, hp⟩ : ∃ p : ByteArray, p = ⟨(cut s.data.toList [32]).1.toArray⟩ := ⟨_, rfl⟩
      obtain ⟨r, hr⟩ : ∃ r : ByteArray, r = ⟨(cut s.data.toList [32]).2.1.toArray⟩ := ⟨_, rfl⟩
      have hpl : (cut s.data.toList [32]).1 = p.data.toList := by rw [hp]
      have hrl : (cut s.data.toList [32]).2.1 = r.data.toList := by rw [hr]
      rw [← hp, ← hr] at CU1
      rw [hpl, hrl] at HA
      rw [hrl, hss] at hP2
      have hrs : r.size ≤ s.size := by simpa using hP2
      clear hp hr hpl hrl hP1 hP2 CU
      generalize (cut s.data.toList [32]).2.2 = fnd at *
      go_wp2_with fail
      with_reducible refine (CU1.out).mono ?_
      rintro e w2 ⟨rfl, hk2⟩
      have HT2 := Lib.hid (HT.out.keeps hk2)
      have HK2 := Lib.hid (HK.out.step hk2)
      clear hk2 HT
      have HV2 := Lib.hid (HV.out.keeps HK2.out)
      have CC := Lib.hid (contains_any r w2 (by omega) HV2.out)
      have CN := Lib.hid (numbersOf_any r w2 (by omega) HV2.out)
      have hsp := splitA_len 44 r.data.toList []
      have hrr : r.data.toList.length = r.size := by simp
      rcases told_at HT2.out p with ⟨hkn, hlk⟩ | ⟨hkn, v, hv, hlk⟩
      · have HA2 : Hid (answ s.data.toList = w_what) := Lib.hid (by rw [HA.out, hkn]; rfl)
        clear hkn
        go_wp2_with fail
        go_ret
        exact ⟨by rw [HA2.out]; rfl, HK2.out⟩
      · cases fnd
        · have HA2 : Hid (answ s.data.toList = w_what) := Lib.hid (by rw [HA.out, hkn]; rfl)
          clear hkn
          go_wp2_with fail
          go_ret
          exact ⟨by rw [HA2.out]; rfl, HK2.out⟩
        · cases hct : contains r.data.toList [32]
          · rw [hct] at CC
            have HA2 := Lib.hid (HA.out.trans (by rw [hkn, hct, if_pos (by rfl)]))
            clear hkn hct HA
            obtain ⟨fn, caps, rfl, hcf, hcall⟩ := tell_calls hv
            have HC := Lib.hid hcall
            clear hcall hv
            go_wp2_with fail
            with_reducible refine (CC.out).mono ?_
            rintro e w3 ⟨rfl, rfl⟩
            go_wp2_with fail
            with_reducible refine (CN.out).mono ?_
            intro e w4 hN
            cases hcn : canons (splitA 44 [] r.data.toList) with
            | none =>
              rw [hcn] at hN HA2
              obtain ⟨hk4, N, rfl⟩ := hN
              have HK5 := Lib.hid ((HK2.out.step hk4).step (Keeps.alloc w4 (.cells #[.pointer none] 80)))
              have HA3 : Hid (answ s.data.toList = w_wrong) := Lib.hid HA2.out
              have CA := Lib.hid (as_hit_any N w4.heap.size (.pointer none) w (w4.alloc (.cells #[.pointer none] 80)) (HV.out.keeps HK5.out) HK5.out (Blk.new _ _ _) (Nat.le_trans HK2.out.size hk4.size))
              clear hk4 hcn HA2
              go_wp2_with fail
              with_reducible refine (CA.out).mono ?_
              rintro e w6 ⟨rfl, hk6⟩
              have HK6 := Lib.hid hk6
              clear hk6
              go_wp2_with fail
              go_ret
              exact ⟨by rw [HA3.out]; rfl, HK6.out⟩
            | some L =>
              have hPl : (splitA 44 [] r.data.toList).length ≤ 4294967281 := by omega
              rw [hcn] at hN HA2
              obtain ⟨hk4, g, c, rfl, hO⟩ := hN
              have hk5 := hk4.step (Keeps.alloc w4 (.cells #[.pointer none] 80))
              have HK5 := Lib.hid (HK2.out.step hk5)
              have HA3 : Hid (answ s.data.toList = (answF p.data.toList L).getD w_wrong) := Lib.hid HA2.out
              have HNA := Lib.hid (nums_at hO hcn hPl (HV2.out.keeps hk4))
              have CA := Lib.hid (fun t => as_nil t (w4.alloc (.cells #[.pointer none] 80)))
              have CF := Lib.hid (HC.out (w4.alloc (.cells #[.pointer none] 80)) hk5 _ _ _ L (HNA.out.keeps (Keeps.alloc w4 (.cells #[.pointer none] 80))))
              clear hk4 hk5 hcn HA2 hO hPl
              go_wp2_with fail
              with_reducible refine (CA.out _).mono ?_
              rintro e w6 ⟨rfl, rfl⟩
              go_wp2_with fail
              with_reducible refine (CF.out).mono ?_
              rintro e w7 ⟨hans, hk7⟩
              have HK7 := Lib.hid (HK5.out.step hk7)
              clear hk7
              cases hF : answF p.data.toList L with
              | none =>
                rw [hF] at hans HA3
                obtain ⟨S, rfl⟩ := hans
                clear hF
                go_wp2_with fail
                go_ret
                exact ⟨by rw [HA3.out]; rfl, HK7.out⟩
              | some t =>
                rw [hF] at hans HA3
                obtain rfl := hans
                clear hF
                go_wp2_with fail
                go_ret
                exact ⟨by rw [HA3.out]; rfl, HK7.out⟩
          · rw [hct] at CC
            have HA2 : Hid (answ s.data.toList = w_what) := Lib.hid (by rw [HA.out, hkn, hct]; rfl)
            clear hkn hct HA
            go_wp2_with fail
            with_reducible refine (CC.out).mono ?_
            rintro e w3 ⟨rfl, rfl⟩
            go_wp2_with fail
            go_ret
            exact ⟨by rw [HA2.out]; rfl, HK2.out⟩
end Go.Proofs.YtlniogfinofakaaGreatDoor
/-
  RunDesk of the program. Conditions: lines shorter than 2^32 - 15.
-/
namespace Go.Proofs.YtlniogfinofakaaGreatDoor
set_option maxRecDepth 100000
open Go.RowKit Go.Lib
set_option linter.unusedVariables false

set_option maxHeartbeats 4000000 in
theorem iRunDesk_any (A : Option Addr) (n c : Nat) (f : Nat → ByteArray) (w : World) (hn : n ≤ 1099511627776) (hS : Strs w A n f) (hf : ∀ i, i < n → (f i).size < 4294967281) (hv : Vars w) :
    Calls Tryz.prog 8 #[.slice A n c] w fun e w' => e = .returned (.string ⟨(deskT n f).toArray⟩) ∧ Keeps w w' := by
  have HS := Lib.hid hS
  have HF := Lib.hid hf
  have HV := Lib.hid hv
  clear hS hf hv
  by_cases h20 : n > 20
  · have h20i : (n : Int) > 20 := by omega
    have HD : Hid (deskT n f = []) := Lib.hid (by unfold deskT; rw [if_pos h20])
    go_enter Tryz.func8, Tryz.ntmps8
    go_wp2_with fail
    go_ret
    exact ⟨by rw [HD.out]; rfl, Keeps.refl _⟩
  · have h20i : ¬ (n : Int) > 20 := by omega
    have HD : Hid (deskT n f = deskK f n) := Lib.hid (by unfold deskT; rw [if_neg h20])
    have HB0 : Hid (Bld w.heap.size w.heap.size [] (w.alloc (.cells #[.pointer none, .slice none 0 0] 35))) := Lib.hid (Bld.fresh w)
    have HK0 := Lib.hid (Keeps.alloc w (.cells #[.pointer none, .slice none 0 0] 35))
    go_enter Tryz.func8, Tryz.ntmps8
    go_wp2_with fail
    obtain ⟨B, hB⟩ : ∃ B, B = w.heap.size := ⟨_, rfl⟩
    rw [← hB] at HB0 ⊢
    have HBE := Lib.hid hB
    clear hB
    go_loopw [11] (fun q wr => ∃ i : Nat, i ≤ n ∧ q = .int .i64 i ∧ Hid (Bld B B (deskK f i) wr) ∧ Hid (Keeps w wr)) (fun q _ => n - (intOf q).toNat)
    case atStart => exact ⟨0, by omega, rfl, HB0, HK0⟩
    case round =>
      clear HB0 HK0
      obtain ⟨i, hi, rfl, HB, HK⟩ := hrel
      by_cases hlt : i < n
      · have hii : (i : Int) < n := by omega
        obtain ⟨d, off, rfl, hc⟩ := HS.out.keeps HK.out i hlt
        have hfi := HF.out i hlt
        have HDN : Hid (deskK f (i + 1) = deskK f i ++ (answ (f i).data.toList ++ [10])) := Lib.hid rfl
        have hdl := deskK_len f i
        have hal := (answ_good (f i).data.toList).1
        generalize f i = ln at *
        have CA := Lib.hid (iAnswer_any ln wr hfi (HV.out.keeps HK.out))
        obtain ⟨Y, hY⟩ : ∃ Y : ByteArray, Y = ⟨(answ ln.data.toList).toArray⟩ := ⟨_, rfl⟩
        have hYl : answ ln.data.toList = Y.data.toList := by rw [hY]
        have hYs : Y.size ≤ 100 := by rw [hY]; exact hal
        rw [← hY] at CA
        rw [hYl] at HDN
        clear hY hal hYl
        have CW := Lib.hid (fun w1 (k : Keeps wr w1) => ws_any B B (deskK f i) Y w w1 (HB.out.keeps k) (by omega) HBE.out (HK.out.step k))
        go_wp2_with fail
        with_reducible refine (CA.out).mono ?_
        rintro e w1 ⟨rfl, hk1⟩
        have CW1 := Lib.hid (CW.out w1 hk1)
        clear hk1
        go_wp2_with fail
        with_reducible refine (CW1.out).mono ?_
        rintro e w2 ⟨rfl, hb2, hk2⟩
        have CB2 := Lib.hid (wb_any B B _ w w2 hb2 (by rw [List.length_append]; have : Y.data.toList.length = Y.size := by simp
                                                       omega) HBE.out hk2)
        clear hb2 hk2
        go_wp2_with fail
        with_reducible refine (CB2.out).mono ?_
        rintro e w3 ⟨rfl, hb3, hk3⟩
        have HB3 : Hid (Bld B B (deskK f (i + 1)) w3) := Lib.hid (by rw [HDN.out, ← List.append_assoc]; exact hb3)
        have HK3 := Lib.hid hk3
        clear hb3 hk3
        go_wp2_with fail
        go_roundw
        case rel => exact ⟨i + 1, by omega, by go_num, HB3, HK3⟩
        case measure => simp [intOf]; omega
      · obtain rfl : i = n := by omega
        have CS := Lib.hid (bs_any B B _ w wr HB.out HBE.out HK.out)
        go_wp2_with fail
        with_reducible refine (CS.out).mono ?_
        rintro e w1 ⟨rfl, hk1⟩
        have HK1 := Lib.hid hk1
        clear hk1
        go_wp2_with fail
        go_ret
        exact ⟨by rw [HD.out]; rfl, HK1.out⟩
end Go.Proofs.YtlniogfinofakaaGreatDoor
