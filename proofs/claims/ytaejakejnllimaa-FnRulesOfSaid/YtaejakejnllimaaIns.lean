/-
  The reference's less, same and insert. Conditions: bounds on lengths.
-/
import Derived.Test.YtaejakejnllimaaNextI
import Derived.Deep.RegionLaw
namespace Go.Proofs.Ytaejakejnllimaa
set_option maxRecDepth 100000
set_option linter.unusedVariables false
open Go.RowKit

theorem icmp_lt (x y : Int) : icmp x y < 0 ↔ x < y := by unfold icmp; split <;> (try split) <;> omega
theorem icmp_eq (x y : Int) : icmp x y = 0 ↔ x = y := by unfold icmp; split <;> (try split) <;> omega
set_option maxHeartbeats 1000000 in
theorem less_any (a b : Option Addr) (n c d : Nat) (l m : List Int) (w : World) (hl : l.length = n) (hm : m.length = n) (hn : n ≤ 1099511627776) (hx : Ints w a n (fun i => l.getD i 0)) (hy : Ints w b n (fun i => m.getD i 0)) :
    Calls Try.prog 78 #[.slice a n c, .slice b n d] w fun e w' => e = .returned (.bool (ltL l m)) ∧ Keeps w w' := by
  have HX := Lib.hid hx
  have HY := Lib.hid hy
  obtain ⟨C, hC⟩ : ∃ C : Nat → Int, C = fun i => cmpL (l.drop i) (m.drop i) := ⟨_, rfl⟩
  obtain ⟨x, hx0⟩ : ∃ x : Nat → Int, x = fun i => l.getD i 0 := ⟨_, rfl⟩
  obtain ⟨y, hy0⟩ : ∃ y : Nat → Int, y = fun i => m.getD i 0 := ⟨_, rfl⟩
  have HC1 : Hid (∀ i, i < n → C i = if icmp (x i) (y i) = 0 then C (i + 1) else icmp (x i) (y i)) := Lib.hid (by rw [hC, hx0, hy0]; exact fun i hi => cmp_drop l m i (by omega) (by omega))
  have HC2 : Hid (C n = 0) := Lib.hid (by rw [hC]; dsimp only; rw [List.drop_eq_nil_of_le (by omega), List.drop_eq_nil_of_le (by omega)]; rfl)
  have HC0 : Hid (ltL l m = decide (C 0 < 0)) := Lib.hid (by rw [hC]; simp [ltL])
  rw [← hx0] at HX
  rw [← hy0] at HY
  clear hx hy hC hx0 hy0 hl hm
  go_enter Try.func78, Try.ntmps78
  go_wp2_with fail
  go_loopw [5] (fun i wr => ∃ j : Nat, j ≤ n ∧ i = .int .i64 j ∧ Hid (C 0 = C j) ∧ Hid (Keeps w wr)) (fun i _ => n - (intOf i).toNat)
  case atStart => exact ⟨0, by omega, rfl, Lib.hid rfl, Lib.hid (Keeps.refl _)⟩
  case round =>
    obtain ⟨j, hj, rfl, HCJ, HK⟩ := hrel
    by_cases hlt : j < n
    · have hji : (j : Int) < n := by omega
      obtain ⟨d1, o1, rfl, hc1⟩ := HX.out.keeps HK.out j hlt
      obtain ⟨d2, o2, rfl, hc2⟩ := HY.out.keeps HK.out j hlt
      have HV := Lib.hid (HC1.out j hlt)
      have HI := Lib.hid (icmp_eq (x j) (y j))
      have HI2 := Lib.hid (icmp_lt (x j) (y j))
      generalize x j = xj at *
      generalize y j = yj at *
      cases he : (xj != yj)
      · have HE : Hid (C j = C (j + 1)) := Lib.hid (by rw [HV.out, if_pos (HI.out.2 (by simpa using he))])
        go_wp2_with fail
        go_quiet (fail)
        go_wp2
        go_roundw
        case rel => exact ⟨j + 1, by omega, by go_num, Lib.hid (HCJ.out.trans HE.out), Lib.hid (HK.out.step (Keeps.drewN _ _))⟩
        case measure => simp [intOf]; omega
      · have HE : Hid (C j = icmp xj yj) := Lib.hid (by rw [HV.out, if_neg (fun h => by have := HI.out.1 h; simp [this] at he)])
        have HLT : Hid (ltL l m = decide (xj < yj)) := Lib.hid (by
          rw [HC0.out, HCJ.out, HE.out]
          exact decide_eq_decide.2 HI2.out)
        go_wp2_with fail
        go_quiet (fail)
        go_wp2_with fail
        go_quiet (fail)
        go_wp2
        go_ret
        exact ⟨ret_bool HLT.out.symm, HK.out.step ((Keeps.drewN _ _).step (Keeps.drewN _ _))⟩
    · obtain rfl : j = n := by omega
      have HF : Hid (false = ltL l m) := Lib.hid (by rw [HC0.out, HCJ.out, HC2.out]; rfl)
      go_wp2
      go_ret
      exact ⟨ret_bool HF.out, HK.out⟩
set_option maxHeartbeats 1000000 in
theorem same_any (a b : Option Addr) (n c d : Nat) (l m : List Int) (w : World) (hl : l.length = n) (hm : m.length = n) (hn : n ≤ 1099511627776) (hx : Ints w a n (fun i => l.getD i 0)) (hy : Ints w b n (fun i => m.getD i 0)) :
    Calls Try.prog 39 #[.slice a n c, .slice b n d] w fun e w' => e = .returned (.bool (decide (l = m))) ∧ Keeps w w' := by
  have HX := Lib.hid hx
  have HY := Lib.hid hy
  have HE := Lib.hid (lists_ne l m (by omega))
  rw [hl] at HE
  obtain ⟨x, hx0⟩ : ∃ x : Nat → Int, x = fun i => l.getD i 0 := ⟨_, rfl⟩
  obtain ⟨y, hy0⟩ : ∃ y : Nat → Int, y = fun i => m.getD i 0 := ⟨_, rfl⟩
  have hxy : (fun i => l.getD i 0 != m.getD i 0) = fun i => x i != y i := by rw [hx0, hy0]
  rw [hxy] at HE
  rw [← hx0] at HX
  rw [← hy0] at HY
  clear hx hy hx0 hy0 hl hm hxy
  go_enter Try.func39, Try.ntmps39
  go_wp2_with fail
  go_loopw [5] (fun i wr => ∃ j : Nat, j ≤ n ∧ i = .int .i64 j ∧ Hid (anyB (fun i => x i != y i) j = false) ∧ Hid (Keeps w wr)) (fun i _ => n - (intOf i).toNat)
  case atStart => exact ⟨0, by omega, rfl, Lib.hid rfl, Lib.hid (Keeps.refl _)⟩
  case round =>
    obtain ⟨j, hj, rfl, HA, HK⟩ := hrel
    by_cases hlt : j < n
    · have hji : (j : Int) < n := by omega
      obtain ⟨d1, o1, rfl, hc1⟩ := HX.out.keeps HK.out j hlt
      obtain ⟨d2, o2, rfl, hc2⟩ := HY.out.keeps HK.out j hlt
      have HS := Lib.hid (show anyB (fun i => x i != y i) (j + 1) = (anyB (fun i => x i != y i) j || (x j != y j)) from rfl)
      have HT : Hid ((x j != y j) = true → false = decide (l = m)) := Lib.hid (fun h => by rw [← HE.out, (anyB_iff _ _).2 ⟨j, hlt, h⟩]; rfl)
      generalize x j = xj at *
      generalize y j = yj at *
      cases he : (xj != yj)
      · have HP := Lib.hid he
        go_wp2_with fail
        go_quiet (fail)
        go_wp2
        go_roundw
        case rel => exact ⟨j + 1, by omega, by go_num, Lib.hid (by rw [HS.out, HA.out, HP.out]; rfl), Lib.hid (HK.out.step (Keeps.drewN _ _))⟩
        case measure => simp [intOf]; omega
      · have HF := Lib.hid (HT.out he)
        go_wp2_with fail
        go_quiet (fail)
        go_wp2
        go_ret
        exact ⟨ret_bool HF.out, HK.out.step (Keeps.drewN _ _)⟩
    · obtain rfl : j = n := by omega
      have HF : Hid (true = decide (l = m)) := Lib.hid (by rw [← HE.out, HA.out]; rfl)
      go_wp2
      go_ret
      exact ⟨ret_bool HF.out, HK.out⟩
theorem Crn.cell {w : World} {lo g m : Nat} {R : List Hdr} (h : Crn w lo (some ⟨g, 0, none⟩) m R) (i : Nat) (hi : i < m) : w.cell? ⟨g, i, none⟩ = some (R.getD i default).v := by
  rcases h.top with h0 | ⟨g', cur, e, _, hb, ht⟩
  · omega
  · cases e
    have hl := h.len
    rw [hb.cell i, ← Array.getElem?_toList, ← List.getElem?_take_of_lt hi, ht, List.getElem?_map, List.getElem?_eq_getElem (by omega), List.getD_eq_getElem?_getD, List.getElem?_eq_getElem (by omega)]
    rfl
theorem Crn.rowD {w : World} {lo m : Nat} {A : Option Addr} {R : List Hdr} (h : Crn w lo A m R) (i : Nat) (hi : i < m) : OwnInts w lo (some ⟨(R.getD i default).g, 0, none⟩) (R.getD i default).l.length (R.getD i default).d (R.getD i default).l := by
  have := h.len
  refine h.row _ ?_
  rw [List.getD_eq_getElem?_getD, List.getElem?_eq_getElem (by omega)]
  exact List.getElem_mem _
theorem Crn.keeps {w w' : World} {lo m : Nat} {A : Option Addr} {R : List Hdr} (h : Crn w lo A m R) (k : Keeps w w') : Crn w' lo A m R := by
  refine ⟨h.len, ?_, fun x hx => (h.row x hx).keeps k⟩
  rcases h.top with h0 | ⟨g', cur, e, hl, hb, ht⟩
  · exact .inl h0
  · exact .inr ⟨g', cur, e, hl, hb.keeps k, ht⟩
theorem step_spread_crd {ops : Array Oper} {o : Oper} {a : Act} {K : Act → World → Prop} {Q : Exit → Act → World → Prop} {D : Prop}
    (hgd : o.guard = none) (s y : Operand) (ho : o.op = .call { callee := .builtin .append, args := #[s, y], argTypes := #[24, 24] })
    (lo g n c : Nat) (R : List Hdr) (W : World) (hs : a.eval s = .slice (some ⟨g, 0, none⟩) n c) (hC : Crd W lo (some ⟨g, 0, none⟩) n c R)
    (b off m k : Nat) (hx : a.eval y = .slice (some ⟨b, off, none⟩) m k) (R2 : List Hdr) (hl2 : R2.length = m) (hz : ∀ j, j < m → W.cell? ⟨b, off + j, none⟩ = some (R2.getD j default).v)
    (hrow : ∀ h ∈ R2, OwnInts W lo (some ⟨h.g, 0, none⟩) h.l.length h.d h.l) (hn : n + m ≤ 1099511627776) (hbase : lo ≤ W.heap.size)
    (h : ∀ (g' c' : Nat) (w' : World), Crd w' lo (some ⟨g', 0, none⟩) (n + m) c' (R ++ R2) → W.grownBy w' (some g) → (g' = g ∨ g' = W.heap.size) → K (a.put o.dst (.slice (some ⟨g', 0, none⟩) (n + m) c')) w') :
    if Region.wanted o (yielded ops a.tmps) = true then Oper.wp Try.prog o a W K Q else D := by
  have hw : Region.wanted o (yielded ops a.tmps) = true := by simp [Region.wanted, hgd]
  rw [if_pos hw]
  obtain ⟨i0, hi, hz0, hz1, hz2⟩ := info_parts info_ints
  obtain ⟨v', w', hr, h2, h3, h4, h5⟩ := run_append_own_at (P := Try.prog) W lo 24 o.type 23 i0 _ 1 24 Try.underlying24 hi hz0 hz1 hz2 rfl (by decide) _ n _ hC.top ⟨b, off, none⟩ m k (R2.map Hdr.v) (by simp [hl2]) (fun j u hj => by
    have hjm : j < m := by
      have := (List.getElem?_eq_some_iff.1 hj).1
      simpa [hl2] using this
    rw [show (⟨b, off, none⟩ : Addr).add j = ⟨b, off + j, none⟩ from Addr.add_lit _ _ _, hz j hjm, ← hj, List.getElem?_map, List.getElem?_eq_getElem (by omega), List.getD_eq_getElem?_getD, List.getElem?_eq_getElem (by omega)]
    rfl) (fun u hu => by
    obtain ⟨x, _, rfl⟩ := List.mem_map.1 hu
    rfl) (by unfold maxLen; omega) (by omega) hbase
  have hv : ∃ g' c', v' = .slice (some ⟨g', 0, none⟩) (n + m) c' := by
    rcases h2.2 with ⟨e, h0⟩ | ⟨g', cap, cur, e, _⟩
    · have := (h4.1 e).1
      cases this
    · exact ⟨g', cap, e⟩
  obtain ⟨g', c', rfl⟩ := hv
  have keep : ∀ z : Hdr, OwnInts W lo (some ⟨z.g, 0, none⟩) z.l.length z.d z.l → OwnInts w' lo (some ⟨z.g, 0, none⟩) z.l.length z.d z.l := fun z hz => own_kept hz h3 (fun kk hkk e => own_type hz hC.top (by decide) kk hkk (by simpa [Value.ownBlock] using e))
  unfold Oper.wp execOp
  simp only [ho, resolve, invoke, builtin, Sem.run_bind, Sem.run_pure, Result.andThen_ok, List.map_toArray, List.map_cons, List.map_nil, hs, hx, hr]
  refine h g' c' w' ⟨by rw [List.map_append]; exact h2, fun z hz => ?_⟩ h3 (by rcases h5 with e | e <;> simp [Value.ownBlock] at e <;> omega)
  rcases List.mem_append.1 hz with e | e
  · exact keep z (hC.row z e)
  · exact keep z (hrow z e)
end Go.Proofs.Ytaejakejnllimaa
