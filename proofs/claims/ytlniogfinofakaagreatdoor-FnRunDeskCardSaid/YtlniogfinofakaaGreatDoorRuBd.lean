/-
  The contracts of listText and readList of the reference. Conditions: bounds on lengths and numbers.
-/
import Derived.Test.YtlniogfinofakaaGreatDoorRuAk
import Derived.Deep.QuietTactic
import Derived.BigQuiet
namespace Go.Proofs.YtlniogfinofakaaGreatDoor
set_option maxRecDepth 100000
open Go.RowKit Go.Lib
set_option linter.unusedVariables false

theorem str_eta' (s : ByteArray) : (⟨s.data.toList.toArray⟩ : ByteArray) = s := by cases s; simp
def numsT (x : Nat → Nat) : Nat → List UInt8
  | 0 => []
  | k + 1 => (if 0 < k then numsT x k ++ [44] else numsT x k) ++ decDigits (x k)
theorem join_snoc (xs : List (List UInt8)) (y sep : List UInt8) (h : xs ≠ []) : join (xs ++ [y]) sep = join xs sep ++ sep ++ y := by
  cases xs with
  | nil => exact absurd rfl h
  | cons x r =>
    rw [List.cons_append, join_cons, join_cons]
    simp [joinTail]
theorem numsT_eq (x : Nat → Nat) : ∀ k, numsT x k = join ((List.range k).map fun i => decDigits (x i)) [44]
  | 0 => by simp [numsT, join_nil]
  | k + 1 => by
    rw [numsT, numsT_eq x k, List.range_succ, List.map_append]
    by_cases h : 0 < k
    · rw [if_pos h]
      rw [List.map_cons, List.map_nil, join_snoc _ _ _ (by simp; omega)]
    · obtain rfl : k = 0 := by omega
      simp [join_nil, join_one]
theorem numsT_len (x : Nat → Nat) : ∀ k, (∀ i, i < k → x i < 1000000000000) → (numsT x k).length ≤ 21 * k
  | 0, _ => by simp [numsT]
  | k + 1, h => by
    have h1 := numsT_len x k (fun i hi => h i (by omega))
    have h2 := nDigits_le20 (x k) (by have := h k (by omega); omega)
    rw [← decDigits_length] at h2
    rw [numsT]
    split <;> simp only [List.length_append, List.length_cons, List.length_nil] <;> omega
set_option maxHeartbeats 2000000 in
theorem listText_any (A : Option Addr) (n c : Nat) (x : Nat → Nat) (w : World) (hn : n ≤ 1000000) (hx : ∀ i, i < n → x i < 1000000000000) (hI : Ints w A n (fun i => ((x i : Nat) : Int))) :
    Calls Tryz.prog 19 #[.slice A n c] w fun e w' => e = .returned (.string ⟨(numsT x n).toArray⟩) ∧ w = w' := by
  have HI := Lib.hid hI
  have HX := Lib.hid hx
  have HL := Lib.hid (fun k (hk : k ≤ n) => numsT_len x k (fun i hi => hx i (by omega)))
  clear hI hx
  go_enter Tryz.func19, Tryz.ntmps19
  go_wp2_with fail
  go_loop [3, 4] (fun s i => ∃ (k : Nat) (S : ByteArray), k ≤ n ∧ i = .int .i64 k ∧ s = .string S ∧ Hid (S = ⟨(numsT x k).toArray⟩)) (fun _ i => n - (intOf i).toNat)
  case atStart => exact ⟨0, _, by omega, rfl, rfl, Lib.hid rfl⟩
  case round =>
    obtain ⟨k, S, hk, rfl, rfl, HS⟩ := hrel
    by_cases hlt : k < n
    · have hki : (k : Int) < n := by omega
      obtain ⟨d, off, rfl, hc⟩ := HI.out k hlt
      dsimp only at hc
      have CN := Lib.hid (fun w => number_any _ (x k) w (Nat.le_refl _) (HX.out k hlt))
      have hl1 := HL.out k hk
      have hsz : S.size ≤ 21 * k := by rw [HS.out]; exact hl1
      have HN : Hid (numsT x (k + 1) = (if 0 < k then numsT x k ++ [44] else numsT x k) ++ decDigits (x k)) := Lib.hid rfl
      have hl2 : (decDigits (x k)).length ≤ 20 := by rw [decDigits_length]; exact nDigits_le20 _ (by have := HX.out k hlt; omega)
      generalize decDigits (x k) = y at *
      generalize x k = z at *
      by_cases h0 : 0 < k
      · have h0i : (0 : Int) < k := by omega
        have HN2 : Hid (numsT x (k + 1) = numsT x k ++ [44] ++ y) := Lib.hid (by rw [HN.out, if_pos h0])
        clear HN
        generalize numsT x k = t at *
        obtain ⟨Y, hY⟩ : ∃ Y : ByteArray, Y = ⟨y.toArray⟩ := ⟨_, rfl⟩
        have hYs : Y.size ≤ 20 := by rw [hY]; exact hl2
        rw [← hY] at CN
        have HYY := Lib.hid hY
        clear hY hl1 hl2
        go_wp2_with fail
        with_reducible refine (CN.out _).mono ?_
        rintro e w1 ⟨rfl, rfl⟩
        go_wp2_with fail
        go_round
        case rel => exact ⟨k + 1, _, by omega, by go_num, rfl, Lib.hid (by rw [HN2.out, ← str_add, ← str_add, ← HS.out, ← HYY.out])⟩
        case measure => simp [intOf]; omega
      · have h0i : ¬ (0 : Int) < k := by omega
        have HN2 : Hid (numsT x (k + 1) = numsT x k ++ y) := Lib.hid (by rw [HN.out, if_neg h0])
        clear HN
        generalize numsT x k = t at *
        obtain ⟨Y, hY⟩ : ∃ Y : ByteArray, Y = ⟨y.toArray⟩ := ⟨_, rfl⟩
        have hYs : Y.size ≤ 20 := by rw [hY]; exact hl2
        rw [← hY] at CN
        have HYY := Lib.hid hY
        clear hY hl1 hl2
        go_wp2_with fail
        with_reducible refine (CN.out _).mono ?_
        rintro e w1 ⟨rfl, rfl⟩
        go_wp2_with fail
        go_round
        case rel => exact ⟨k + 1, _, by omega, by go_num, rfl, Lib.hid (by rw [HN2.out, ← str_add, ← HS.out, ← HYY.out])⟩
        case measure => simp [intOf]; omega
    · obtain rfl : k = n := by omega
      go_wp2_with fail
      go_ret
      exact ⟨by rw [← HS.out]; rfl, rfl⟩
theorem splitA_len (c : UInt8) : ∀ (l acc : List UInt8), (splitA c acc l).length ≤ l.length + 1
  | [], acc => by simp [splitA]
  | b :: r, acc => by
    rw [splitA]
    have h1 := splitA_len c r []
    have h2 := splitA_len c r (acc ++ [b])
    split <;> simp only [List.length_cons] <;> omega
theorem splitA_sz (c : UInt8) : ∀ (l acc : List UInt8) (q : List UInt8), q ∈ splitA c acc l → q.length ≤ acc.length + l.length
  | [], acc, q, h => by
    simp only [splitA, List.mem_singleton] at h
    subst h; simp
  | b :: r, acc, q, h => by
    rw [splitA] at h
    split at h
    · rcases List.mem_cons.1 h with rfl | h1
      · omega
      · have := splitA_sz c r [] q h1
        simp only [List.length_nil, List.length_cons] at *
        omega
    · have := splitA_sz c r _ q h
      simp only [List.length_append, List.length_cons, List.length_nil] at *
      omega
/-- What the fold over a text has after its first k bytes. -/
def rdK (p : ByteArray) (k : Nat) : Int := (p.data.toList.take k).foldl rdStep 0
theorem rdK_next (p : ByteArray) {k : Nat} (h : k < p.size) : rdK p (k + 1) = rdStep (rdK p k) p[k] := by
  have h' : k < p.data.toList.length := by simpa using h
  unfold rdK
  rw [List.take_add_one, List.getElem?_eq_getElem h', List.foldl_append]
  simp only [Option.toList_some, List.foldl_cons, List.foldl_nil]
  congr 1
theorem rdK_bd (p : ByteArray) (k : Nat) : -1 ≤ rdK p k ∧ rdK p k ≤ 10009 := rdFold_bd _ 0 (by omega)
theorem rdK_all (p : ByteArray) : rdK p p.size = rdF p.data.toList := by
  unfold rdK rdF
  rw [List.take_of_length_le (by simp)]
set_option maxHeartbeats 4000000 in
theorem readList_any (s : ByteArray) (w : World) (hs : s.size ≤ 1099511627775) :
    Calls Tryz.prog 29 #[.string s] w fun e w' => ∃ (g m c : Nat), e = .returned (.slice (some ⟨g, 0, none⟩) m c) ∧ OwnInts w' w.heap.size (some ⟨g, 0, none⟩) m c ((splitA 44 [] s.data.toList).map rd1) ∧ Keeps w w' := by
  have HO0 := Lib.hid (OwnInts.made w w.heap.size (Nat.le_refl _))
  have hcc : Int.ofNat 44 = (((44 : UInt8).toNat : Nat) : Int) := rfl
  go_enter Tryz.func29, Tryz.ntmps29
  go_wp2_with fail
  refine (splitAt_any s 44 _ hs).mono ?_
  rintro e w1 ⟨gS, cS, l, rfl, hO, hP, hk1⟩
  have HP := Lib.hid hP
  have HOS := Lib.hid hO
  have HO1 := Lib.hid (HO0.out.keeps hk1)
  have HK1 := Lib.hid ((Keeps.alloc w (.cells #[] 3)).step hk1)
  have HLN : Hid (l.length ≤ 1099511627776) := Lib.hid (by
    have h := congrArg List.length hP
    rw [List.length_map] at h
    have := splitA_len 44 s.data.toList []
    have e : s.data.toList.length = s.size := by simp
    omega)
  have hln := HLN.out
  clear hP hO hk1 HO0
  go_wp2_with fail
  go_loopw [3, 5] (fun o q wr => ∃ (i g c : Nat), i ≤ l.length ∧ q = .int .i64 i ∧ o = .slice (some ⟨g, 0, none⟩) i c ∧ Hid (OwnInts wr w.heap.size (some ⟨g, 0, none⟩) i c ((l.take i).map (fun p => rd1 p.data.toList))) ∧ Hid (OwnStrs wr (w.alloc (.cells #[] 3)).heap.size (some ⟨gS, 0, none⟩) l.length cS l) ∧ Hid (Keeps w wr)) (fun _ q _ => l.length - (intOf q).toNat)
  case atStart => exact ⟨0, w.heap.size, 0, by omega, rfl, rfl, HO1, HOS, HK1⟩
  case round =>
    clear HO1 HOS HK1
    obtain ⟨i, g, c, hi, rfl, rfl, HO, HOS, HK⟩ := hrel
    by_cases hlt : i < l.length
    · have hii : (i : Int) < l.length := by omega
      obtain ⟨_, _, e, hcp⟩ := HOS.out.strs i hlt
      cases e
      dsimp only at hcp
      rw [Nat.zero_add] at hcp
      have HTN : Hid ((l.take (i + 1)).map (fun p => rd1 p.data.toList) = (l.take i).map (fun p => rd1 p.data.toList) ++ [rd1 (l.getD i ByteArray.empty).data.toList]) := Lib.hid (by
        rw [List.take_add_one, List.getElem?_eq_getElem hlt, List.map_append]
        simp [List.getD_eq_getElem?_getD, List.getElem?_eq_getElem hlt])
      obtain ⟨p, hp⟩ : ∃ p, p = l.getD i ByteArray.empty := ⟨_, rfl⟩
      rw [← hp] at hcp HTN
      have HSZ : Hid (p.size < 1099511627776) := Lib.hid (by
        have hm : p.data.toList ∈ splitA 44 [] s.data.toList := by
          rw [← HP.out, hp, List.getD_eq_getElem?_getD, List.getElem?_eq_getElem hlt]
          exact List.mem_map_of_mem (List.getElem_mem hlt)
        have h := splitA_sz 44 _ _ _ hm
        have e1 : p.data.toList.length = p.size := by simp
        have e2 : s.data.toList.length = s.size := by simp
        simp only [List.length_nil] at h
        omega)
      have hps := HSZ.out
      clear hp
      go_wp2_with fail
      go_loop [6, 7] (fun m q => ∃ (k : Nat) (n : Int), k ≤ p.size ∧ q = .int .i64 k ∧ m = .int .i64 n ∧ Hid (n = rdK p k)) (fun _ q => p.size - (intOf q).toNat)
      case atStart => exact ⟨0, 0, by omega, rfl, rfl, Lib.hid rfl⟩
      case round =>
        obtain ⟨k, n, hk, rfl, rfl, HN⟩ := hrel
        have hb1 : -1 ≤ n := by rw [HN.out]; exact (rdK_bd p k).1
        have hb2 : n ≤ 10009 := by rw [HN.out]; exact (rdK_bd p k).2
        by_cases hkt : k < p.size
        · have hki : (k : Int) < p.size := by omega
          have HNX : Hid (rdK p (k + 1) = rdStep n p[k]) := Lib.hid (by rw [rdK_next p hkt, HN.out])
          by_cases c1 : n < 0
          · have HV : Hid (-1 = rdK p (k + 1)) := Lib.hid (by rw [HNX.out, rdStep, if_pos (.inl c1)])
            go_wp2_with fail
            go_round
            case rel => exact ⟨k + 1, -1, by omega, by go_num, rfl, HV⟩
            case measure => simp [intOf]; omega
          · by_cases c2 : n > 1000
            · have HV : Hid (-1 = rdK p (k + 1)) := Lib.hid (by rw [HNX.out, rdStep, if_pos (.inr (.inl c2))])
              go_wp2_with fail
              go_round
              case rel => exact ⟨k + 1, -1, by omega, by go_num, rfl, HV⟩
              case measure => simp [intOf]; omega
            · by_cases c3 : p[k].toNat < 48
              · have HV : Hid (-1 = rdK p (k + 1)) := Lib.hid (by rw [HNX.out, rdStep, if_pos (.inr (.inr (.inl c3)))])
                have c3i : ((p[k].toNat : Nat) : Int) < 48 := by omega
                clear c3
                go_wp2_with fail
                go_round
                case rel => exact ⟨k + 1, -1, by omega, by go_num, rfl, HV⟩
                case measure => simp [intOf]; omega
              · by_cases c4 : 57 < p[k].toNat
                · have HV : Hid (-1 = rdK p (k + 1)) := Lib.hid (by rw [HNX.out, rdStep, if_pos (.inr (.inr (.inr c4)))])
                  have c3i : ¬ ((p[k].toNat : Nat) : Int) < 48 := by omega
                  have c4i : ((p[k].toNat : Nat) : Int) > 57 := by omega
                  clear c3 c4
                  go_wp2_with fail
                  go_round
                  case rel => exact ⟨k + 1, -1, by omega, by go_num, rfl, HV⟩
                  case measure => simp [intOf]; omega
                · have HV : Hid (10 * n + ((p[k].toNat : Int) - 48) = rdK p (k + 1)) := Lib.hid (by rw [HNX.out, rdStep, if_neg (by omega)])
                  have c3i : ¬ ((p[k].toNat : Nat) : Int) < 48 := by omega
                  have c4i : ¬ ((p[k].toNat : Nat) : Int) > 57 := by omega
                  have h57 : ((p[k].toNat : Nat) : Int) ≤ 57 := by omega
                  have h48 : 48 ≤ ((p[k].toNat : Nat) : Int) := by omega
                  clear c3 c4
                  go_wp2_with fail
                  go_round
                  case rel =>
                    refine ⟨k + 1, _, by omega, by go_num, rfl, Lib.hid ?_⟩
                    rw [← HV.out]
                  case measure => simp [intOf]; omega
        · obtain rfl : k = p.size := by omega
          have HF : Hid (n = rdF p.data.toList) := Lib.hid (by rw [HN.out, rdK_all])
          have HO1 := Lib.hid HO.out
          by_cases he : p = ⟨#[]⟩
          · have heb : p.toList.isEmpty = true := by rw [he, toList_data]; rfl
            have HR : Hid (-1 = rd1 p.data.toList) := Lib.hid (by rw [rd1, if_pos (.inl (by rw [he]))])
            clear he
            go_wp2_with fail
            go_quiet (fail)
            have HKN := Lib.hid (Keeps.drewN wr nq)
            generalize wr.drewN nq = wn at *
            have HO2 := Lib.hid (HO1.out.keeps HKN.out)
            have HOS2 := Lib.hid (HOS.out.keeps HKN.out)
            have HK2 := Lib.hid (HK.out.step HKN.out)
            have hsz := HK2.out.size
            go_wp2_with (first | (at_builtin; refine wp_app_int rfl _ _ rfl w.heap.size (some ⟨g, 0, none⟩) i c _ _ rfl HO2.out _ rfl (by omega) hsz ?_; intro g6 c6 w6 hO6 hg6))
            have HO6 : Hid (OwnInts w6 w.heap.size (some ⟨g6, 0, none⟩) (i + 1) c6 ((l.take (i + 1)).map (fun p => rd1 p.data.toList))) := Lib.hid (by rw [HTN.out, ← HR.out]; exact hO6)
            have HOS6 := Lib.hid (own_kept HOS2.out hg6 (fun k hk => own_type HOS2.out HO2.out (by decide) k hk ∘ Eq.symm ∘ Eq.symm))
            have HK6 := Lib.hid (HK2.out.grown HO2.out (Nat.le_refl _) hg6)
            clear hO6 hg6
            go_roundw
            case rel => exact ⟨i + 1, g6, c6, by omega, by go_num, rfl, HO6, HOS6, HK6⟩
            case measure => simp [intOf]; omega
          · have heb : p.toList.isEmpty = false := by rw [toList_data, List.isEmpty_eq_false_iff]; exact fun h => he (by cases p; simp at h; simp [h])
            have hel : p.data.toList ≠ [] := fun h => he (by cases p; simp at h; simp [h])
            by_cases hneg : n < 0
            · have HR : Hid (-1 = rd1 p.data.toList) := Lib.hid (by rw [rd1, if_pos (.inr (.inl (by rw [← HF.out]; exact hneg)))])
              clear he hel
              go_wp2_with fail
              go_quiet (fail)
              have HKN := Lib.hid (Keeps.drewN wr nq)
              generalize wr.drewN nq = wn at *
              have HO2 := Lib.hid (HO1.out.keeps HKN.out)
              have HOS2 := Lib.hid (HOS.out.keeps HKN.out)
              have HK2 := Lib.hid (HK.out.step HKN.out)
              have hsz := HK2.out.size
              go_wp2_with (first | (at_builtin; refine wp_app_int rfl _ _ rfl w.heap.size (some ⟨g, 0, none⟩) i c _ _ rfl HO2.out _ rfl (by omega) hsz ?_; intro g6 c6 w6 hO6 hg6))
              have HO6 : Hid (OwnInts w6 w.heap.size (some ⟨g6, 0, none⟩) (i + 1) c6 ((l.take (i + 1)).map (fun p => rd1 p.data.toList))) := Lib.hid (by rw [HTN.out, ← HR.out]; exact hO6)
              have HOS6 := Lib.hid (own_kept HOS2.out hg6 (fun k hk => own_type HOS2.out HO2.out (by decide) k hk ∘ Eq.symm ∘ Eq.symm))
              have HK6 := Lib.hid (HK2.out.grown HO2.out (Nat.le_refl _) hg6)
              clear hO6 hg6
              go_roundw
              case rel => exact ⟨i + 1, g6, c6, by omega, by go_num, rfl, HO6, HOS6, HK6⟩
              case measure => simp [intOf]; omega
            · obtain ⟨m, rfl⟩ : ∃ m : Nat, n = (m : Int) := ⟨n.toNat, by omega⟩
              have hm : m ≤ 10009 := by omega
              have CN := Lib.hid (fun w => number_any _ m w (Nat.le_refl _) (by omega))
              obtain ⟨Y, hY⟩ : ∃ Y : ByteArray, Y = ⟨(decDigits m).toArray⟩ := ⟨_, rfl⟩
              have HRR : Hid (rd1 p.data.toList = if Y = p then (m : Int) else -1) := Lib.hid (by
                rw [rd1, ← HF.out]
                by_cases hyp : Y = p
                · rw [if_pos hyp, if_neg]
                  rintro (h | h | h)
                  · exact hel h
                  · omega
                  · exact h (by rw [← hyp, hY]; simp)
                · rw [if_neg hyp, if_pos]
                  refine .inr (.inr fun h => hyp ?_)
                  rw [hY]
                  have h2 : decDigits m = p.data.toList := h
                  rw [h2])
              rw [← hY] at CN
              clear hY he hel
              by_cases hyp : Y = p
              · have hyb : (Y.toList == p.toList) = true := by rw [hyp, beq_self_eq_true]
                have HR : Hid ((m : Int) = rd1 p.data.toList) := Lib.hid (by rw [HRR.out, if_pos hyp])
                clear hyp HRR
                go_wp2_with fail
                go_quiet ((go_at_call 26; exact Calls.quiet_of_same ((CN.out _).mono fun _ _ h => ⟨h.1, h.2.symm⟩)))
                have HKN := Lib.hid (Keeps.drewN wr nq)
                generalize wr.drewN nq = wn at *
                have HO2 := Lib.hid (HO1.out.keeps HKN.out)
                have HOS2 := Lib.hid (HOS.out.keeps HKN.out)
                have HK2 := Lib.hid (HK.out.step HKN.out)
                have hsz := HK2.out.size
                go_wp2_with (first | (at_builtin; refine wp_app_int rfl _ _ rfl w.heap.size (some ⟨g, 0, none⟩) i c _ _ rfl HO2.out _ rfl (by omega) hsz ?_; intro g6 c6 w6 hO6 hg6))
                have HO6 : Hid (OwnInts w6 w.heap.size (some ⟨g6, 0, none⟩) (i + 1) c6 ((l.take (i + 1)).map (fun p => rd1 p.data.toList))) := Lib.hid (by rw [HTN.out, ← HR.out]; exact hO6)
                have HOS6 := Lib.hid (own_kept HOS2.out hg6 (fun k hk => own_type HOS2.out HO2.out (by decide) k hk ∘ Eq.symm ∘ Eq.symm))
                have HK6 := Lib.hid (HK2.out.grown HO2.out (Nat.le_refl _) hg6)
                clear hO6 hg6
                go_roundw
                case rel => exact ⟨i + 1, g6, c6, by omega, by go_num, rfl, HO6, HOS6, HK6⟩
                case measure => simp [intOf]; omega
              · have hyb : (Y.toList == p.toList) = false := by
                  rw [beq_eq_false_iff_ne, toList_data, toList_data]
                  exact fun h => hyp (by rw [← str_eta' Y, ← str_eta' p, h])
                have HR : Hid (-1 = rd1 p.data.toList) := Lib.hid (by rw [HRR.out, if_neg hyp])
                clear hyp HRR
                go_wp2_with fail
                go_quiet ((go_at_call 26; exact Calls.quiet_of_same ((CN.out _).mono fun _ _ h => ⟨h.1, h.2.symm⟩)))
                have HKN := Lib.hid (Keeps.drewN wr nq)
                generalize wr.drewN nq = wn at *
                have HO2 := Lib.hid (HO1.out.keeps HKN.out)
                have HOS2 := Lib.hid (HOS.out.keeps HKN.out)
                have HK2 := Lib.hid (HK.out.step HKN.out)
                have hsz := HK2.out.size
                go_wp2_with (first | (at_builtin; refine wp_app_int rfl _ _ rfl w.heap.size (some ⟨g, 0, none⟩) i c _ _ rfl HO2.out _ rfl (by omega) hsz ?_; intro g6 c6 w6 hO6 hg6))
                have HO6 : Hid (OwnInts w6 w.heap.size (some ⟨g6, 0, none⟩) (i + 1) c6 ((l.take (i + 1)).map (fun p => rd1 p.data.toList))) := Lib.hid (by rw [HTN.out, ← HR.out]; exact hO6)
                have HOS6 := Lib.hid (own_kept HOS2.out hg6 (fun k hk => own_type HOS2.out HO2.out (by decide) k hk ∘ Eq.symm ∘ Eq.symm))
                have HK6 := Lib.hid (HK2.out.grown HO2.out (Nat.le_refl _) hg6)
                clear hO6 hg6
                go_roundw
                case rel => exact ⟨i + 1, g6, c6, by omega, by go_num, rfl, HO6, HOS6, HK6⟩
                case measure => simp [intOf]; omega
    · obtain rfl : i = l.length := by omega
      go_wp2_with fail
      go_ret
      refine ⟨g, l.length, c, rfl, ?_, HK.out⟩
      have h := HO.out
      rw [List.take_length] at h
      rw [← HP.out, List.map_map]
      exact h
end Go.Proofs.YtlniogfinofakaaGreatDoor
