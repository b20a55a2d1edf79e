/-
  The desk's tells of the program: elect, tokens, muddy. Conditions: at most 2^40 - 1 numbers within int.
-/
import Derived.Test.YtlniogfinofakaaGreatDoorRuBo
import Derived.Test.YtlniogfinofakaaGreatDoorRuBm
import Derived.Test.YtlniogfinofakaaGreatDoorRuAw
import Derived.Test.YtlniogfinofakaaGreatDoorRuAq
import Derived.Test.YtlniogfinofakaaGreatDoorRuBj
import Derived.Test.YtlniogfinofakaaGreatDoorRuAv
import Derived.Deep.QuietTactic
import Derived.BigQuiet
import Derived.Deep.RegionLaw
import Derived.MapKept
import Derived.RangeFuncRecord
namespace Go.Proofs.YtlniogfinofakaaGreatDoor
set_option maxRecDepth 100000
open Go.RowKit Go.Lib
set_option linter.unusedVariables false

/-- A list of numbers as a tell gets it. -/
structure NumsAt (w : World) (A : Option Addr) (n c : Nat) (L : List Int) : Prop where
  len : L.length = n
  le : n ≤ c
  cap : c ≤ 9223372036854775807
  n40 : n ≤ 1099511627775
  ints : Ints w A n (fun i => L.getD i 0)
  bd : ∀ v ∈ L, -9223372036854775808 ≤ v ∧ v ≤ 9223372036854775807
  vars : Vars w
theorem NumsAt.keeps {w w' : World} {A : Option Addr} {n c : Nat} {L : List Int} (h : NumsAt w A n c L) (k : Keeps w w') : NumsAt w' A n c L := ⟨h.len, h.le, h.cap, h.n40, h.ints.keeps k, h.bd, h.vars.keeps k⟩
def TellAns (A : Option (List UInt8)) (w : World) (e : Ending) (w' : World) : Prop :=
  (match A with
    | some t => e = .returned (.tuple #[.string ⟨t.toArray⟩, .bool true])
    | none => ∃ S, e = .returned (.tuple #[.string S, .bool false])) ∧ Keeps w w'
theorem TellAns.no {A : Option (List UInt8)} {w w' : World} {S : ByteArray} (h : A = none) (k : Keeps w w') : TellAns A w (.returned (.tuple #[.string S, .bool false])) w' := by
  subst h
  exact ⟨⟨_, rfl⟩, k⟩
theorem TellAns.yes {A : Option (List UInt8)} {w w' : World} {t : List UInt8} {S : ByteArray} (h : A = some t) (e : S = ⟨t.toArray⟩) (k : Keeps w w') : TellAns A w (.returned (.tuple #[.string S, .bool true])) w' := by
  subst h
  subst e
  exact ⟨rfl, k⟩
theorem lst_nat (sep : List UInt8) (q : List Nat) : lstT sep (q.map (fun k : Nat => (k : Int))) = join (q.map decDigits) sep := by
  unfold lstT
  rw [List.map_map]
  exact congrArg (fun l => join l sep) (List.map_congr_left fun v _ => itoa_nat v)
theorem lst_two (a b : Nat) : lstT [32] [(a : Int), (b : Int)] = decDigits a ++ (32 :: decDigits b) := by
  unfold lstT
  rw [List.map_cons, List.map_cons, List.map_nil, itoa_nat, itoa_nat, join_cons]
  simp [joinTail]
theorem lst_one (sep : List UInt8) (a : Nat) : lstT sep [(a : Int)] = decDigits a := by
  unfold lstT
  rw [List.map_cons, List.map_nil, itoa_nat, join_one]
/-- listed of a literal. -/
theorem listed_two (sep : ByteArray) (x y : Int) (w : World) (hs : sep.size ≤ 1) (h1 : -9223372036854775808 ≤ x ∧ x ≤ 9223372036854775807) (h2 : -9223372036854775808 ≤ y ∧ y ≤ 9223372036854775807) (hv : Vars w) :
    Calls Tryz.prog 62 #[.string sep, .slice (some ⟨w.heap.size, 0, none⟩) 2 2] (w.alloc (.cells #[.int .i64 x, .int .i64 y] 3)) fun e w' => e = .returned (.string ⟨(lstT sep.data.toList [x, y]).toArray⟩) ∧ Keeps w w' := by
  have hk := Keeps.alloc w (.cells #[.int .i64 x, .int .i64 y] 3)
  refine (listed_any sep (some ⟨w.heap.size, 0, none⟩) 2 2 [x, y] _ hs rfl (by omega) (ints_of (l := [x, y]) (Blk.new w _ _)) (fun v hm => ?_) (hv.keeps hk)).mono ?_
  · rcases List.mem_cons.1 hm with rfl | hm
    · exact h1
    · rw [List.mem_singleton.1 hm]; exact h2
  · rintro e w' ⟨rfl, k⟩
    exact ⟨rfl, hk.step k⟩
theorem listed_one (sep : ByteArray) (x : Int) (w : World) (hs : sep.size ≤ 1) (h1 : -9223372036854775808 ≤ x ∧ x ≤ 9223372036854775807) (hv : Vars w) :
    Calls Tryz.prog 62 #[.string sep, .slice (some ⟨w.heap.size, 0, none⟩) 1 1] (w.alloc (.cells #[.int .i64 x] 3)) fun e w' => e = .returned (.string ⟨(lstT sep.data.toList [x]).toArray⟩) ∧ Keeps w w' := by
  have hk := Keeps.alloc w (.cells #[.int .i64 x] 3)
  refine (listed_any sep (some ⟨w.heap.size, 0, none⟩) 1 1 [x] _ hs rfl (by omega) (ints_of (l := [x]) (Blk.new w _ _)) (fun v hm => ?_) (hv.keeps hk)).mono ?_
  · rw [List.mem_singleton.1 hm]; exact h1
  · rintro e w' ⟨rfl, k⟩
    exact ⟨rfl, hk.step k⟩
theorem tellElect_any (A : Option Addr) (n c : Nat) (L : List Int) (w : World) (h : NumsAt w A n c L) :
    Calls Tryz.prog 41 #[.slice A n c] w (TellAns (answF w_elect L) w) := by
  have H := Lib.hid h
  have h40 := h.n40
  have hmk : marksX n (fun i => L.getD i 0) = mkB L := by rw [← h.len]; rfl
  clear h
  cases hb : mkB L
  · have HA : Hid (answF w_elect L = none) := Lib.hid (by rw [answF_elect, hb]; rfl)
    have CE := Lib.hid (iElectOf_no A n c _ w (by omega) H.out.le H.out.cap H.out.ints (hmk.trans hb))
    have CL := Lib.hid (fun w1 (k : Keeps w w1) => listed_two ⟨#[32]⟩ (-1) (-1) w1 (by decide) (by omega) (by omega) (H.out.vars.keeps k))
    clear hb hmk
    go_enter Tryz.func41, Tryz.ntmps41
    go_wp2_with fail
    with_reducible refine (CE.out).mono ?_
    rintro e w1 ⟨rfl, hk1⟩
    have CL2 := Lib.hid (CL.out w1 hk1)
    have HK1 := Lib.hid hk1
    clear hk1 CL
    go_wp2_with fail
    with_reducible refine (CL2.out).mono ?_
    rintro e w2 ⟨rfl, hk2⟩
    have HK2 := Lib.hid (HK1.out.step hk2)
    clear hk2
    go_wp2_with fail
    go_ret2
    exact TellAns.no HA.out HK2.out
  · have HA : Hid (answF w_elect L = some (electT L)) := Lib.hid (by rw [answF_elect, hb]; rfl)
    have CE := Lib.hid (iElectOf_yes A n c _ w H.out.le H.out.cap H.out.ints (hmk.trans hb))
    have hlen6 := marks_n (hmk.trans hb)
    have hA1 := atE_le (fun i => L.getD i 0) (n - 1)
    have hA2 := sumE_bd (x := fun i => L.getD i 0) hlen6.2 (Nat.le_refl n)
    have HE : Hid (electT L = decDigits (atE (fun i => L.getD i 0) (n - 1)) ++ (32 :: decDigits (sumE (fun i => L.getD i 0) n n))) := Lib.hid (by rw [← H.out.len]; rfl)
    clear hb hmk
    generalize atE (fun i => L.getD i 0) (n - 1) = x1 at *
    generalize sumE (fun i => L.getD i 0) n n = x2 at *
    have CL := Lib.hid (fun w1 (k : Keeps w w1) => listed_two ⟨#[32]⟩ x1 x2 w1 (by decide) (by omega) (by omega) (H.out.vars.keeps k))
    rw [show lstT (⟨#[32]⟩ : ByteArray).data.toList [(x1 : Int), (x2 : Int)] = decDigits x1 ++ (32 :: decDigits x2) from lst_two x1 x2, ← HE.out] at CL
    have hx1 : ((x1 : Int)) ≥ 0 := by omega
    go_enter Tryz.func41, Tryz.ntmps41
    go_wp2_with fail
    with_reducible refine (CE.out).mono ?_
    rintro e w1 ⟨rfl, hk1⟩
    have CL2 := Lib.hid (CL.out w1 hk1)
    have HK1 := Lib.hid hk1
    clear hk1 CL
    go_wp2_with fail
    with_reducible refine (CL2.out).mono ?_
    rintro e w2 ⟨rfl, hk2⟩
    have HK2 := Lib.hid (HK1.out.step hk2)
    clear hk2
    go_wp2_with fail
    go_ret2
    exact TellAns.yes HA.out rfl HK2.out
theorem tellTokens_any (A : Option Addr) (n c : Nat) (L : List Int) (w : World) (h : NumsAt w A n c L) :
    Calls Tryz.prog 42 #[.slice A n c] w (TellAns (answF w_tokens L) w) := by
  have H := Lib.hid h
  have h40 := h.n40
  have CV := Lib.hid (fun w1 (k : Keeps w w1) => validTokens_any 5 A n c (fun i => L.getD i 0) w1 (by omega) (h.ints.keeps k))
  have hmk : tokOkB 5 n (fun i => L.getD i 0) = tokOkB 5 L.length (fun i => L.getD i 0) := by rw [h.len]
  clear h
  cases hb : tokOkB 5 L.length (fun i => L.getD i 0)
  · have HA : Hid (answF w_tokens L = none) := Lib.hid (by rw [answF_tokens, hb]; rfl)
    rw [hmk, hb] at CV
    clear hb hmk
    have CT : Hid (Calls Tryz.prog 63 #[.int .i64 5, .slice A n c] w fun e w' => e = .returned (.slice none 0 0) ∧ Keeps w w') := Lib.hid (by
      have CV1 := Lib.hid (CV.out w (Keeps.refl w))
      go_enter Tryz.func63, Tryz.ntmps63
      go_wp2_with fail
      with_reducible refine (CV1.out).mono ?_
      rintro e w1 ⟨rfl, hk1⟩
      go_wp2_with fail
      go_ret
      exact ⟨rfl, hk1⟩)
    have CL := Lib.hid (fun w1 (k : Keeps w w1) => listed_any ⟨#[44]⟩ none 0 0 [] w1 (by decide) rfl (by omega) (fun i hi => absurd hi (by omega)) (fun v hv => absurd hv List.not_mem_nil) (H.out.vars.keeps k))
    go_enter Tryz.func42, Tryz.ntmps42
    go_wp2_with fail
    with_reducible refine (CT.out).mono ?_
    rintro e w1 ⟨rfl, hk1⟩
    have CL2 := Lib.hid (CL.out w1 hk1)
    have HK1 := Lib.hid hk1
    clear hk1 CL
    go_wp2_with fail
    with_reducible refine (CL2.out).mono ?_
    rintro e w2 ⟨rfl, hk2⟩
    have HK2 := Lib.hid (HK1.out.step hk2)
    have CV2 := Lib.hid (CV.out w2 HK2.out)
    clear hk2
    go_wp2_with fail
    with_reducible refine (CV2.out).mono ?_
    rintro e w3 ⟨rfl, hk3⟩
    have HK3 := Lib.hid (HK2.out.step hk3)
    clear hk3
    go_wp2_with fail
    go_ret2
    exact TellAns.no HA.out HK3.out
  · have HA : Hid (answF w_tokens L = some (tokT L)) := Lib.hid (by rw [answF_tokens, hb]; rfl)
    obtain ⟨kk, hkk, hT, hx⟩ := tokOk_true (hmk.trans hb)
    have hn2 := hT.n2
    have hn5 := hT.n5
    have CI := Lib.hid (fun w1 (k : Keeps w w1) => itokens_any A n c (fun j => (L.getD j 0).toNat) w1 hn2 hn5 (fun j hj => by
      obtain ⟨d, off, e, hc⟩ := H.out.ints.keeps k j hj
      refine ⟨d, off, e, ?_⟩
      rw [← hx j hj]
      exact hc))
    have HE : Hid (tokT L = commaT (tks n (fun j => (L.getD j 0).toNat) n)) := Lib.hid (by unfold tokT; rw [H.out.len]; rfl)
    have HTB := Lib.hid (tks_bd (n := n) (s := fun j => (L.getD j 0).toNat) n)
    have HTA := Lib.hid (fun i hi => (tks_at n (fun j => (L.getD j 0).toNat) i hi).1)
    rw [hmk, hb] at CV
    clear hb hmk hT hx hkk
    have CT : Hid (Calls Tryz.prog 63 #[.int .i64 5, .slice A n c] w (TokAns n (fun j => (L.getD j 0).toNat) w)) := Lib.hid (by
      have CV1 := Lib.hid (CV.out w (Keeps.refl w))
      go_enter Tryz.func63, Tryz.ntmps63
      go_wp2_with fail
      with_reducible refine (CV1.out).mono ?_
      rintro e w1 ⟨rfl, hk1⟩
      have CI1 := Lib.hid (CI.out w1 hk1)
      have HK1 := Lib.hid hk1
      clear hk1
      go_wp2_with fail
      with_reducible refine (CI1.out).mono ?_
      rintro e w2 ⟨g, c2, rfl, hI2, hc1, hc2, hg, hk2⟩
      have HI2 := Lib.hid hI2
      have HK2 := Lib.hid hk2
      have HC := Lib.hid (And.intro hc1 (And.intro hc2 hg))
      clear hI2 hk2 hc1 hc2 hg
      go_wp2_with fail
      go_ret
      exact ⟨g, c2, rfl, HI2.out, HC.out.1, HC.out.2.1, Nat.le_trans HK1.out.size HC.out.2.2, HK1.out.step HK2.out⟩)
    go_enter Tryz.func42, Tryz.ntmps42
    go_wp2_with fail
    with_reducible refine (CT.out).mono ?_
    rintro e w1 ⟨g4, c4, rfl, hI4, hc4, hc5, hg4, hk1⟩
    obtain ⟨q, hq⟩ : ∃ q, q = tks n (fun j => (L.getD j 0).toNat) n := ⟨_, rfl⟩
    rw [← hq] at HE HTB HTA hI4 hc4 ⊢
    clear hq
    have CL2 := Lib.hid (listed_any ⟨#[44]⟩ (some ⟨g4, 0, none⟩) q.length c4 (q.map (fun k : Nat => (k : Int))) w1 (by decide) (by rw [List.length_map]) (by have := HTB.out; omega) (fun i hi => by
      obtain ⟨d, off, e, hc⟩ := hI4 i hi
      refine ⟨d, off, e, ?_⟩
      rw [hc]
      simp [List.getD_eq_getElem?_getD, List.getElem?_eq_getElem hi]) (fun v hv => by
        obtain ⟨u, hu, rfl⟩ := List.mem_map.1 hv
        obtain ⟨i, hi, rfl⟩ := List.getElem_of_mem hu
        have h := HTA.out i hi
        rw [List.getD_eq_getElem?_getD, List.getElem?_eq_getElem hi] at h
        simp only [Option.getD_some] at h
        omega) (H.out.vars.keeps hk1))
    rw [show lstT (⟨#[44]⟩ : ByteArray).data.toList (q.map (fun k : Nat => (k : Int))) = commaT q from lst_nat [44] q, ← HE.out] at CL2
    have HK1 := Lib.hid hk1
    clear hk1 hI4 CT CI
    go_wp2_with fail
    with_reducible refine (CL2.out).mono ?_
    rintro e w2 ⟨rfl, hk2⟩
    have HK2 := Lib.hid (HK1.out.step hk2)
    have CV2 := Lib.hid (CV.out w2 HK2.out)
    clear hk2
    go_wp2_with fail
    with_reducible refine (CV2.out).mono ?_
    rintro e w3 ⟨rfl, hk3⟩
    have HK3 := Lib.hid (HK2.out.step hk3)
    clear hk3
    go_wp2_with fail
    go_ret2
    exact TellAns.yes HA.out rfl HK3.out
end Go.Proofs.YtlniogfinofakaaGreatDoor
/-
  The desk's tell of a crowd. Conditions: at most 2^40 - 1 numbers within int.
-/
namespace Go.Proofs.YtlniogfinofakaaGreatDoor
set_option maxRecDepth 100000
open Go.RowKit Go.Lib
set_option linter.unusedVariables false

theorem told_rows {w : World} {lo n : Nat} {A : Option Addr} {R : List Hdr} {F : Nat → Nat → Int} (h : Crn w lo A n R) (hm : R.map (·.l) = tabK n F n) : Rows w A n (hdrR R) F ∧ ∀ i, i < n → (hdrR R i).2.1 = n := by
  have hr : Rows w A n (hdrR R) (numR R) := fun i hi => by
    rcases h.top with h0 | ⟨g, cur, e, h1⟩
    · omega
    · subst e
      exact h.rows i hi
  have hl : ∀ i, i < n → (hdrR R i).2.1 = n := fun i hi => by
    show (R.getD i default).l.length = n
    rw [tabK_at hm hi, il_len]
  refine ⟨fun i hi => ⟨(hr i hi).1, fun j hj => ?_⟩, hl⟩
  obtain ⟨d, off, e, hc⟩ := (hr i hi).2 j hj
  refine ⟨d, off, e, ?_⟩
  rw [hc]
  have h1 : (R.getD i default).l = il n (F i) := tabK_at hm hi
  show some (Value.int .i64 ((R.getD i default).l.getD j 0)) = _
  rw [h1]
  have hj2 : j < n := by rw [← hl i hi]; exact hj
  simp [il, List.getD_eq_getElem?_getD, hj2]
set_option maxHeartbeats 4000000 in
theorem tellCrowd1_any (word : ByteArray) (m : Nat) (l : List Int) (FF GG : List (List Int)) (b : Nat) (A : Option Addr) (n c : Nat) (L : List Int) (w : World) (hm : m ≤ 4)
    (hCR : ∀ w, Calls Tryz.prog 67 #[.string word] w (RulesTold w m l (lsII FF) (lsII GG)))
    (hRB : ∀ (rA rB : Nat → Option Addr × Nat × Nat), (∀ i, i < m → (rA i).2.1 = m) → (∀ i, i < m → (rB i).2.1 = m) → rulB m (lsI l) m rA (lsII FF) m rB (lsII GG) = true)
    (hA : answF word.data.toList L = if crwB m L then some (crwT FF GG m l L) else none)
    (hb : w.cell? ⟨b, 0, none⟩ = some (.string word)) (h : NumsAt w A n c L) :
    Calls Tryz.prog 66 #[.slice A n c, .pointer (some ⟨b, 0, none⟩)] w (TellAns (answF word.data.toList L) w) := by
  have H := Lib.hid h
  have HA := Lib.hid hA
  have HRB := Lib.hid hRB
  have h40 := h.n40
  have CR := Lib.hid (hCR w)
  have HCT : Hid (crwT FF GG m l L = if verd (natF (lsII FF)) (natF (lsII GG)) m (lsI l) L < 0 then w_open else decDigits (verd (natF (lsII FF)) (natF (lsII GG)) m (lsI l) L).toNat) := Lib.hid rfl
  have HVC := Lib.hid (verd_cases (natF (lsII FF)) (natF (lsII GG)) m (lsI l) L)
  clear h hA hRB hCR
  generalize crwT FF GG m l L = CT at *
  generalize hWA : answF word.data.toList L = WA at *
  clear hWA
  go_enter Tryz.func66, Tryz.ntmps66
  go_wp2_with fail
  with_reducible refine (CR.out).mono ?_
  rintro e w3 ⟨S, A1, B1, R1, R2, rfl, hR1, hR2, hS, hC1, hC2, hk3⟩
  obtain ⟨hrA, hlA⟩ := told_rows hC1 hR1
  obtain ⟨hrB, hlB⟩ := told_rows hC2 hR2
  have HR : Hid (RulAt w3 S m (lsI l) A1 m (hdrR R1) (lsII FF) B1 m (hdrR R2) (lsII GG)) := Lib.hid ⟨hS, hrA, hrB, by omega, by omega, by omega, fun i hi => by rw [hlA i hi]; omega, fun i hi => by rw [hlB i hi]; omega⟩
  have HRV : Hid (rulB m (lsI l) m (hdrR R1) (lsII FF) m (hdrR R2) (lsII GG) = true) := Lib.hid (HRB.out _ _ hlA hlB)
  generalize hdrR R1 = rA at *
  generalize hdrR R2 = rB at *
  have HK3 := Lib.hid hk3
  clear hR1 hR2 hS hC1 hC2 hk3 hrA hlA hrB hlB HRB CR
  go_wp2_with fail
  have HB := Lib.hid (Blk.new w3 #[.slice S m m, .slice A1 m m, .slice B1 m m] 54)
  have HK4 := Lib.hid (HK3.out.step (Keeps.alloc w3 (.cells #[.slice S m m, .slice A1 m m, .slice B1 m m] 54)))
  have HR4 := Lib.hid (HR.out.keeps (Keeps.alloc w3 (.cells #[.slice S m m, .slice A1 m m, .slice B1 m m] 54)))
  obtain ⟨bb, hbb⟩ : ∃ bb, bb = w3.heap.size := ⟨_, rfl⟩
  rw [← hbb] at HB ⊢
  clear hbb
  generalize w3.alloc (.cells #[.slice S m m, .slice A1 m m, .slice B1 m m] 54) = w4 at *
  obtain ⟨hLn⟩ : Nonempty (L.length = n) := ⟨H.out.len⟩
  subst hLn
  have CV := Lib.hid (crowdOk_any S A1 B1 A m m m m m m c (lsI l) rA rB (lsII FF) (lsII GG) L w4 HR4.out (H.out.ints.keeps HK4.out) (by omega))
  rw [HRV.out, Bool.true_and] at CV
  have HRN : Hid (RulN w4 S m (lsI l) A1 rA (natF (lsII FF)) B1 rB (natF (lsII GG))) := Lib.hid (HR4.out.valid HRV.out).2.2
  cases hcb : crwB m L
  · rw [hcb] at CV
    have HA2 : Hid (WA = none) := Lib.hid (by rw [HA.out, hcb]; rfl)
    clear hcb
    with_reducible refine (CV.out).mono ?_
    rintro e w5 ⟨rfl, hk5⟩
    have HK5 := Lib.hid (HK4.out.step hk5)
    clear hk5
    go_wp2_with fail
    go_ret2
    exact TellAns.no HA2.out HK5.out
  · rw [hcb] at CV
    have hCL := crwB_iff.1 hcb
    have hml := hCL.len
    subst hml
    have CX := Lib.hid (fun w' (k : Keeps w4 w') => verdictOf_any S A1 B1 A L.length L.length L.length L.length c (lsI l) rA rB (natF (lsII FF)) (natF (lsII GG)) L w' (HRN.out.keeps k) hCL (H.out.ints.keeps (HK4.out.step k)))
    have HA2 : Hid (WA = some CT) := Lib.hid (by rw [HA.out, hcb]; rfl)
    clear hcb hCL
    generalize verd (natF (lsII FF)) (natF (lsII GG)) L.length (lsI l) L = V at *
    have CL := Lib.hid (fun w1 (k : Keeps w w1) => listed_one ⟨#[]⟩ V w1 (by decide) (by have := HVC.out; omega) (H.out.vars.keeps k))
    have hB4 := HB.out
    with_reducible refine (CV.out).mono ?_
    rintro e w5 ⟨rfl, hk5⟩
    have hB5 := HB.out.keeps hk5
    have e0 : w5.cell? ⟨bb, 0, none⟩ = some (.slice S L.length L.length) := hB5.cell 0
    have e1 : w5.cell? ⟨bb, 1, none⟩ = some (.slice A1 L.length L.length) := hB5.cell 1
    have e2 : w5.cell? ⟨bb, 2, none⟩ = some (.slice B1 L.length L.length) := hB5.cell 2
    have CX5 := Lib.hid (CX.out w5 hk5)
    have HK5 := Lib.hid (HK4.out.step hk5)
    clear hk5 hB5 hB4
    go_wp2_with fail
    with_reducible refine (CX5.out).mono ?_
    rintro e w6 ⟨rfl, hk6⟩
    have HK6 := Lib.hid (HK5.out.step hk6)
    have CL6 := Lib.hid (CL.out w6 HK6.out)
    clear hk6 e0 e1 e2
    by_cases hneg : V < 0
    · have HCT2 := Lib.hid (HCT.out.trans (if_pos hneg))
      have hge : ¬ V ≥ 0 := by omega
      go_wp2_with fail
      go_ret2
      exact TellAns.yes HA2.out (by rw [HCT2.out]; rfl) HK6.out
    · have HCT2 := Lib.hid (HCT.out.trans (if_neg hneg))
      have hge : V ≥ 0 := by omega
      obtain ⟨v, rfl⟩ : ∃ v : Nat, V = (v : Int) := ⟨V.toNat, by omega⟩
      rw [show lstT (⟨#[]⟩ : ByteArray).data.toList [(v : Int)] = decDigits v from lst_one [] v] at CL6
      rw [show ((v : Int)).toNat = v by omega] at HCT2
      go_wp2_with fail
      with_reducible refine (CL6.out).mono ?_
      rintro e w7 ⟨rfl, hk7⟩
      have HK7 := Lib.hid (HK6.out.step hk7)
      clear hk7
      go_wp2_with fail
      go_ret2
      exact TellAns.yes HA2.out (by rw [HCT2.out]) HK7.out
end Go.Proofs.YtlniogfinofakaaGreatDoor
/-
  The desk's tell of the muddy. Conditions: at most 2^40 - 1 numbers within int.
-/
namespace Go.Proofs.YtlniogfinofakaaGreatDoor
set_option maxRecDepth 100000
open Go.RowKit Go.Lib
set_option linter.unusedVariables false

theorem muT_pos (n w : Nat) : 1 ≤ muT n w := by
  unfold muT
  repeat' split
  all_goals omega
set_option maxHeartbeats 4000000 in
theorem tellMuddy_any (A : Option Addr) (n c : Nat) (L : List Int) (w : World) (h : NumsAt w A n c L) :
    Calls Tryz.prog 43 #[.slice A n c] w (TellAns (answF w_muddy L) w) := by
  have H := Lib.hid h
  have h40 := h.n40
  clear h
  by_cases h2 : n = 2
  · subst h2
    have HM2 := Lib.hid (mudB_two H.out.len)
    obtain ⟨_, _, rfl, d0⟩ := H.out.ints 0 (by omega)
    obtain ⟨_, _, e, d1⟩ := H.out.ints 1 (by omega)
    cases e
    dsimp only at d0 d1
    rw [Nat.add_zero] at d0
    have HMT : Hid (mudT L = decDigits (muT (L.getD 0 0).toNat (L.getD 1 0).toNat)) := Lib.hid rfl
    generalize L.getD 0 0 = x0 at *
    generalize L.getD 1 0 = x1 at *
    have HANS : Hid (∃ (t : Nat) (R : World → Ending → World → Prop), t ≤ 4 ∧ (∀ w1, Keeps w w1 → Calls Tryz.prog 65 #[.int .i64 x0, .int .i64 x1] w1 (fun e w' => ∃ v : Int, e = .returned (.tuple #[.int .i64 t, .int .i64 v]) ∧ Keeps w1 w')) ∧ answF w_muddy L = if 0 < t then some (decDigits t) else none) := Lib.hid (by
      cases hb0 : inB x0 1 4
      · refine ⟨0, fun _ _ _ => True, by omega, fun w1 _ => ?_, ?_⟩
        · refine (iMuddyOf_no1 x0 x1 w1 hb0).mono ?_
          rintro e w' ⟨rfl, k⟩
          exact ⟨0, rfl, k⟩
        · rw [answF_muddy, HM2.out, hb0]; rfl
      · have hx0 := inB_true hb0
        obtain ⟨n, rfl⟩ : ∃ n : Nat, x0 = (n : Int) := ⟨x0.toNat, by omega⟩
        cases hb1 : inB x1 1 ((2 ^ n : Nat) - 1)
        · refine ⟨0, fun _ _ _ => True, by omega, fun w1 _ => ?_, ?_⟩
          · refine (iMuddyOf_no2 n x1 w1 (by omega) (by omega) hb1).mono ?_
            rintro e w' ⟨rfl, k⟩
            exact ⟨0, rfl, k⟩
          · rw [answF_muddy, HM2.out, hb0, show ((n : Int)).toNat = n by omega, hb1]; rfl
        · have hx1 := inB_true hb1
          obtain ⟨w0, rfl⟩ : ∃ w0 : Nat, x1 = (w0 : Int) := ⟨x1.toNat, by omega⟩
          refine ⟨muT n w0, fun _ _ _ => True, muT_le n w0, fun w1 _ => ?_, ?_⟩
          · exact iMuddyOf_yes n w0 w1 (by omega) (by omega) (by omega) (by omega)
          · rw [answF_muddy, HM2.out, hb0, show ((n : Int)).toNat = n by omega, hb1, HMT.out, if_pos (show 0 < muT n w0 from muT_pos n w0), show ((n : Int)).toNat = n by omega, show ((w0 : Int)).toNat = w0 by omega]; rfl)
    obtain ⟨t, _, ht4, CM, hA⟩ := HANS.out
    have CM := Lib.hid CM
    have HA := Lib.hid hA
    have CL := Lib.hid (fun w1 (k : Keeps w w1) => listed_one ⟨#[]⟩ t w1 (by decide) (by omega) (H.out.vars.keeps k))
    rw [show lstT (⟨#[]⟩ : ByteArray).data.toList [(t : Int)] = decDigits t from lst_one [] t] at CL
    clear HANS hA HM2 HMT
    go_enter Tryz.func43, Tryz.ntmps43
    go_wp2_with fail
    go_region_law (first | (refine step_go 65 #[.tmp 12, .tmp 15] #[3, 3] rfl rfl (fun _ _ => rfl) (by simp [Act.eval]) (CM.out w.drew (Keeps.drew1 _)) ?_; rintro e w4 ⟨v, rfl, hk4⟩; refine ⟨_, rfl, ?_⟩) | fail)
    all_goals
      have HK4 := Lib.hid ((Keeps.drew1 w).step hk4)
      have CL4 := Lib.hid (CL.out w4 HK4.out)
      clear hk4
      go_wp2_with fail
      with_reducible refine (CL4.out).mono ?_
      rintro e w5 ⟨rfl, hk5⟩
      have HK5 := Lib.hid (HK4.out.step hk5)
      clear hk5
      by_cases h0 : 0 < t
      · have h0i : (0 : Int) < t := by omega
        have HA2 := Lib.hid (HA.out.trans (if_pos h0))
        go_wp2_with fail
        go_ret2
        exact TellAns.yes HA2.out rfl HK5.out
      · have h0i : ¬ (0 : Int) < t := by omega
        have HA2 := Lib.hid (HA.out.trans (if_neg h0))
        go_wp2_with fail
        go_ret2
        exact TellAns.no HA2.out HK5.out
  · have HA : Hid (answF w_muddy L = none) := Lib.hid (by rw [answF_muddy, mudB_len (by rw [H.out.len]; exact h2)]; rfl)
    have hne : ((n : Int) != 2) = true := by simp; omega
    have hne2 : ((n : Int) == 2) = false := by simp; omega
    go_enter Tryz.func43, Tryz.ntmps43
    go_wp2_with fail
    go_ret2
    exact TellAns.no HA.out (Keeps.refl _)
end Go.Proofs.YtlniogfinofakaaGreatDoor
/-
  The desk's own map of words to tells. No condition.
-/
namespace Go.Proofs.YtlniogfinofakaaGreatDoor
set_option maxRecDepth 100000
open Go.RowKit Go.Lib
set_option linter.unusedVariables false

def ents : List (ByteArray × Value) → Nat → List MapEntry
  | [], _ => []
  | p :: r, i => { key := .string p.1, val := p.2, born := i } :: ents r (i + 1)
theorem ents_snoc (p : ByteArray × Value) : ∀ (l : List (ByteArray × Value)) (i : Nat), ents (l ++ [p]) i = ents l i ++ [{ key := .string p.1, val := p.2, born := i + l.length }]
  | [], i => rfl
  | q :: r, i => by
    simp only [List.cons_append, ents, ents_snoc p r (i + 1), List.length_cons]
    rw [show i + 1 + r.length = i + (r.length + 1) by omega]
def FMap (w : World) (b : Nat) (l : List (ByteArray × Value)) : Prop := w.heap[b]? = some (.map (ents l 0).toArray l.length)
theorem FMap.keeps {w w' : World} {b : Nat} {l : List (ByteArray × Value)} (h : FMap w b l) (k : Keeps w w') : FMap w' b l := (k.block b (Array.getElem?_eq_some_iff.1 h).1).trans h
theorem find_none (k : ByteArray) : ∀ (l : List (ByteArray × Value)) (i j : Nat), (∀ p ∈ l, p.1 ≠ k) → Instr.findNow .string (.string k) (ents l i) j = some none
  | [], _, _, _ => rfl
  | p :: r, i, j, h => by
    have h1 : (k == p.1) = false := by
      cases e : (k == p.1) with
      | false => rfl
      | true => exact absurd ((MapKept.bytes_beq _ _).1 e).symm (h p List.mem_cons_self)
    have h2 := find_none k r (i + 1) (j + 1) (fun q hq => h q (List.mem_cons_of_mem _ hq))
    simp only [ents, Instr.findNow, Instr.sameNow, h1, h2]
theorem find_some (k : ByteArray) : ∀ (l : List (ByteArray × Value)) (i j : Nat), (∃ p ∈ l, p.1 = k) → ∃ m v, (k, v) ∈ l ∧ Instr.findNow .string (.string k) (ents l i) j = some (some (m, v))
  | [], _, _, ⟨_, hp, _⟩ => absurd hp List.not_mem_nil
  | p :: r, i, j, h => by
    cases e : (k == p.1) with
    | true => 
      have e1 := (MapKept.bytes_beq _ _).1 e
      subst e1
      exact ⟨j, p.2, List.mem_cons_self, by simp only [ents, Instr.findNow, Instr.sameNow, e]⟩
    | false =>
      obtain ⟨q, hq, hk⟩ := h
      rcases List.mem_cons.1 hq with rfl | hq
      · rw [(MapKept.bytes_beq _ _).2 hk.symm] at e
        cases e
      · obtain ⟨m, v, h1, h2⟩ := find_some k r (i + 1) (j + 1) ⟨q, hq, hk⟩
        exact ⟨m, v, List.mem_cons_of_mem _ h1, by simp only [ents, Instr.findNow, Instr.sameNow, e, h2]⟩
theorem u_map : Tryz.prog.underlying 72 = some (.map 9 71) := by kernel_rfl
theorem u_str : Tryz.prog.underlying 9 = some .string := by kernel_rfl
theorem fmap_make (w : World) : (Instr.makeMap 72 none).run Tryz.prog w = .ok (.map (some w.heap.size)) (w.alloc (.map #[] 0)) := by
  simp [Instr.makeMap]
theorem fmap_new (w : World) : FMap (w.alloc (.map #[] 0)) w.heap.size [] := heap_alloc_new w _
theorem keeps_putC {w W : World} (h : Keeps w W) {D : Nat} (hD : w.heap.size ≤ D) (o : Obj) : Keeps w (W.putObj D o) :=
  ⟨h.os, h.tape, h.output, Nat.le_trans h.size (by simp), fun i hi => (World.putObj_heap_other (by omega)).trans (h.block i hi)⟩
theorem fmap_put {w W : World} {b : Nat} {l : List (ByteArray × Value)} (h : FMap W b l) (hk : Keeps w W) (hb : w.heap.size ≤ b) (k : ByteArray) (v : Value) (hn : ∀ p ∈ l, p.1 ≠ k) :
    ∃ W', (Instr.mapUpdate 72 (.map (some b)) (.string k) v).run Tryz.prog W = .ok () W' ∧ FMap W' b (l ++ [(k, v)]) ∧ Keeps w W' ∧ W'.heap.size = W.heap.size ∧ ∀ d, d ≠ b → W'.heap[d]? = W.heap[d]? := by
  refine ⟨W.putObj b (.map (ents (l ++ [(k, v)]) 0).toArray (l ++ [(k, v)]).length), ?_, ?_, keeps_putC hk hb _, by simp, fun d hd => World.putObj_heap_other hd⟩
  · have hf := find_none k l 0 0 hn
    have hc : (Instr.checkKey false 10000 9 (.string k)).run Tryz.prog W = .ok () W := MapKept.run_checkKey (k := .string k) u_str (by simp [MapKept.IsKey]) false 9999
    have hf2 : (Instr.findKey 9 (.string k) (ents l 0)).run Tryz.prog W = .ok none W := MapKept.run_findKey u_str hf
    have hs := ents_snoc (k, v) l 0
    rw [Nat.zero_add] at hs
    simp [Instr.mapUpdate, run_underlying u_map, MapKept.run_getObj_map h, hc, hf2, MapKept.run_setObj_map _ h, Result.andThen, World.putObj, hs]
  · exact World.putObj_heap_same (Array.getElem?_eq_some_iff.1 h).1
theorem zero_tell (w : World) : (zeroValue 71).run Tryz.prog w = .ok .nilFunc w := by kernel_rfl
theorem fmap_no {w : World} {b : Nat} {l : List (ByteArray × Value)} (h : FMap w b l) (k : ByteArray) (hn : ∀ p ∈ l, p.1 ≠ k) :
    (Instr.lookup 72 (.map (some b)) (.string k) true).run Tryz.prog w = .ok (.tuple #[.nilFunc, .bool false]) w := by
  have hf := find_none k l 0 0 hn
  have hc : ∀ e, (Instr.checkKey e 10000 9 (.string k)).run Tryz.prog w = .ok () w := fun e => MapKept.run_checkKey (k := .string k) u_str (by simp [MapKept.IsKey]) e 9999
  have hf2 : (Instr.findKey 9 (.string k) (ents l 0)).run Tryz.prog w = .ok none w := MapKept.run_findKey u_str hf
  simp [Instr.lookup, run_underlying u_map, MapKept.run_getObj_map h, hc, hf2, Result.andThen]
theorem fmap_yes {w : World} {b : Nat} {l : List (ByteArray × Value)} (h : FMap w b l) (k : ByteArray) (hn : ∃ p ∈ l, p.1 = k) :
    ∃ v, (k, v) ∈ l ∧ (Instr.lookup 72 (.map (some b)) (.string k) true).run Tryz.prog w = .ok (.tuple #[v, .bool true]) w := by
  obtain ⟨m, v, hm, hf⟩ := find_some k l 0 0 hn
  have hc : ∀ e, (Instr.checkKey e 10000 9 (.string k)).run Tryz.prog w = .ok () w := fun e => MapKept.run_checkKey (k := .string k) u_str (by simp [MapKept.IsKey]) e 9999
  have hf2 : (Instr.findKey 9 (.string k) (ents l 0)).run Tryz.prog w = .ok (some (m, v)) w := MapKept.run_findKey u_str hf
  exact ⟨v, hm, by simp [Instr.lookup, run_underlying u_map, MapKept.run_getObj_map h, hc, hf2, Result.andThen]⟩
end Go.Proofs.YtlniogfinofakaaGreatDoor
