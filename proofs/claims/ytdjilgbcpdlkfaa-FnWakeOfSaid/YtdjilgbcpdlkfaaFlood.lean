/-
  The contracts of FloodOf, of the program and of the reference: both answer the same. No condition.
-/
import Derived.Test.YtdjilgbcpdlkfaaWidth
import Derived.Test.YtdjilgbcpdlkfaaGro
namespace Go.Proofs.Ytdjilgbcpdlkfaa
open Go.RowKit

/-- Is the p-th port of v a better one than the port a? -/
def pkB (far : Nat → Int) (T : Nat → Nat → Nat) (v p : Nat) (a : Int) : Bool := (far (T v p) == far v - 1) && (decide (a < 0) || decide (T v p < T v a.toNat))
/-- The best one of the first ports of v. -/
def pickF (far : Nat → Int) (T : Nat → Nat → Nat) (v : Nat) : Nat → Int
  | 0 => -1
  | p + 1 => if pkB far T v p (pickF far T v p) then p else pickF far T v p
theorem pick_in (far : Nat → Int) (T : Nat → Nat → Nat) (v : Nat) : ∀ p, -1 ≤ pickF far T v p ∧ pickF far T v p < p
  | 0 => by simp [pickF]
  | p + 1 => by
    have := pick_in far T v p
    unfold pickF
    split <;> omega
theorem pick_at (far : Nat → Int) (T : Nat → Nat → Nat) (v : Nat) : ∀ p, 0 ≤ pickF far T v p → far (T v (pickF far T v p).toNat) = far v - 1
  | 0, h => by simp [pickF] at h
  | p + 1, h => by
    unfold pickF at h ⊢
    by_cases e : pkB far T v p (pickF far T v p) = true
    · rw [if_pos e]
      unfold pkB at e
      rw [Bool.and_eq_true] at e
      simpa using e.1
    · rw [if_neg e] at h ⊢
      exact pick_at far T v p h
theorem pick_some (far : Nat → Int) (T : Nat → Nat → Nat) (v : Nat) : ∀ p q, q < p → far (T v q) = far v - 1 → 0 ≤ pickF far T v p
  | 0, _, h, _ => absurd h (Nat.not_lt_zero _)
  | p + 1, q, h, e => by
    unfold pickF
    by_cases e1 : pkB far T v p (pickF far T v p) = true
    · rw [if_pos e1]; omega
    · rw [if_neg e1]
      by_cases e2 : q = p
      · subst e2
        unfold pkB at e1
        have e3 : (far (T v q) == far v - 1) = true := by simpa using e
        rw [e3] at e1
        simp at e1
        exact e1.1
      · exact pick_some far T v p q (by omega) e
theorem pick_none (far : Nat → Int) (T : Nat → Nat → Nat) (v : Nat) : ∀ p, (∀ q, q < p → far (T v q) ≠ far v - 1) → pickF far T v p = -1
  | 0, _ => rfl
  | p + 1, h => by
    unfold pickF
    have e1 : (far (T v p) == far v - 1) = false := by simpa using h p (by omega)
    unfold pkB
    rw [e1]
    simp only [Bool.false_and]
    exact pick_none far T v p (fun q hq => h q (by omega))
section
variable {m : Nat} {L : Nat → Nat} {X : Nat → Nat → Int} {mm : Nat} {M : Nat → Int}
/-- Ports are few. -/
theorem net_deg (ok : NetOk m L X mm M) (v : Nat) (hv : v < m) : L v ≤ m := by
  refine pigeon m (L v) (portT X v) (fun i hi => ok.node v i hv hi) (fun i j hi hj e => ?_)
  by_cases h1 : i < j
  · exact absurd e.symm (ok.once v j i hv hj h1)
  · by_cases h2 : j < i
    · exact absurd e (ok.once v i j hv hi h2)
    · omega
theorem net_symm (ok : NetOk m L X mm M) {v u : Nat} (hv : v < m) (h : Adj L (portT X) v u) : Adj L (portT X) u v := by
  obtain ⟨p, hp, e⟩ := h
  have := ok.back v p hv hp
  rwa [e] at this
/-- All nodes are reached from each one. -/
theorem net_far (ok : NetOk m L X mm M) (s : Nat) (hs : s < m) (v : Nat) (hv : v < m) : 0 ≤ farF m L (portT X) s v := by
  have D0 := far_dist m L (portT X) 0
  have D := far_dist m L (portT X) s
  have back : ∀ (k : Nat) (u : Nat), u < m → farF m L (portT X) 0 u = (k : Int) → 0 ≤ farF m L (portT X) s u → 0 ≤ farF m L (portT X) s 0 := by
    intro k
    induction k with
    | zero =>
      intro u hu e h
      rwa [D0.zero u hu (by simpa using e)] at h
    | succ k ih =>
      intro u hu e h
      obtain ⟨t, ht, e1, a⟩ := D0.pred u hu (by omega)
      exact ih t ht (by omega) (D.edge u t hu ht (net_symm ok ht a) h).1
  have h0 : 0 ≤ farF m L (portT X) s 0 := by
    obtain ⟨k, hk⟩ := Int.eq_ofNat_of_zero_le (ok.reach s hs)
    exact back k s hs hk (by rw [D.src]; omega)
  have fwd : ∀ (k : Nat) (u : Nat), u < m → farF m L (portT X) 0 u = (k : Int) → 0 ≤ farF m L (portT X) s u := by
    intro k
    induction k with
    | zero =>
      intro u hu e
      rw [D0.zero u hu (by simpa using e)]
      exact h0
    | succ k ih =>
      intro u hu e
      obtain ⟨t, ht, e1, a⟩ := D0.pred u hu (by omega)
      exact (D.edge t u ht hu a (ih t ht (by omega))).1
  obtain ⟨k, hk⟩ := Int.eq_ofNat_of_zero_le (ok.reach v hv)
  exact fwd k v hv hk
/-- The port to the node from which word comes: there is one but for the node where it begins. -/
theorem pick_iff (ok : NetOk m L X mm M) (s : Nat) (hs : s < m) (v : Nat) (hv : v < m) : 0 ≤ pickF (farF m L (portT X) s) (portT X) v (L v) ↔ v ≠ s := by
  have D := far_dist m L (portT X) s
  constructor
  · intro h e
    subst e
    have h1 := pick_at _ _ _ _ h
    have h2 := pick_in (farF m L (portT X) v) (portT X) v (L v)
    have h3 := net_far ok v hs (portT X v (pickF (farF m L (portT X) v) (portT X) v (L v)).toNat) (ok.node v _ hs (by omega))
    rw [D.src] at h1
    omega
  · intro h
    have h0 := net_far ok s hs v hv
    have h1 : 0 < farF m L (portT X) s v := by
      have : farF m L (portT X) s v ≠ 0 := fun e => h (D.zero v hv e)
      omega
    obtain ⟨u, hu, e, a⟩ := D.pred v hv h1
    obtain ⟨p, hp, e2⟩ := net_symm ok hu a
    exact pick_some _ _ _ _ p hp (by rw [e2, e])
theorem pick_src (ok : NetOk m L X mm M) (s : Nat) (hs : s < m) : pickF (farF m L (portT X) s) (portT X) s (L s) = -1 := by
  have h1 := pick_in (farF m L (portT X) s) (portT X) s (L s)
  have h2 : ¬ 0 ≤ pickF (farF m L (portT X) s) (portT X) s (L s) := fun h => (pick_iff ok s hs s hs).1 h rfl
  omega
end
/-- How many messages the first v nodes get or send. -/
def tellF (L : Nat → Nat) (s : Nat) : Nat → Int
  | 0 => 0
  | v + 1 => tellF L s v + (L v : Int) - (if v = s then 0 else 1)
theorem tell_bound (L : Nat → Nat) (s m : Nat) : ∀ k, (∀ v, v < k → L v ≤ m) → -(k : Int) ≤ tellF L s k ∧ tellF L s k ≤ (k * m : Nat)
  | 0, _ => by simp [tellF]
  | k + 1, h => by
    have h1 := tell_bound L s m k (fun v hv => h v (by omega))
    have h2 := h k (by omega)
    have h3 : (k + 1) * m = k * m + m := by rw [Nat.succ_mul]
    rw [h3]
    unfold tellF
    split <;> omega
theorem tell_in (L : Nat → Nat) (s m k : Nat) (hk : k ≤ 6) (hm : m ≤ 6) (h : ∀ v, v < k → L v ≤ m) : -6 ≤ tellF L s k ∧ tellF L s k ≤ 36 := by
  have h1 := tell_bound L s m k h
  have h2 : k * m ≤ 6 * 6 := Nat.mul_le_mul hk hm
  omega
def floodL (m : Nat) (L : Nat → Nat) (X : Nat → Nat → Int) (mm : Nat) (M : Nat → Int) (s : Int) : List Int := if nodeB m L X mm M s then il m (fun v => pickF (farF m L (portT X) s.toNat) (portT X) v (L v)) else []
theorem floodL_len (m : Nat) (L : Nat → Nat) (X : Nat → Nat → Int) (mm : Nat) (M : Nat → Int) (s : Int) : (floodL m L X mm M s).length ≤ m := by
  unfold floodL
  split
  · rw [il_len]; exact Nat.le_refl _
  · exact Nat.zero_le _
def floodI (m : Nat) (L : Nat → Nat) (X : Nat → Nat → Int) (mm : Nat) (M : Nat → Int) (s : Int) : Int := if nodeB m L X mm M s then tellF L s.toNat m else -1
/-- Ints and a number, as an answer. -/
def GiveLI (l : List Int) (k : Int) (w : World) (e : Ending) (w' : World) : Prop :=
  ∃ (A : Option Addr) (c : Nat), e = .returned (.tuple #[.slice A l.length c, .int .i64 k]) ∧ OwnInts w' w.heap.size A l.length c l ∧ Keeps w w'
theorem GiveLI.nil {l : List Int} {k : Int} {w w' : World} (hl : l = []) (hk : k = -1) (kk : Keeps w w') : GiveLI l k w (.returned (.tuple #[.slice Option.none 0 0, .int .i64 (-1)])) w' := by
  subst hl
  subst hk
  exact ⟨Option.none, 0, rfl, OwnInts.nil _ _, kk⟩
theorem GiveLI.of {m : Nat} {x : Nat → Int} {l : List Int} {k k' : Int} {w w' : World} {g c lo : Nat} (hl : l = il m x) (hk : k = k') (hO : OwnInts w' lo (some ⟨g, 0, none⟩) m c (il m x)) (h0 : w.heap.size ≤ lo) (kk : Keeps w w') : GiveLI l k w (.returned (.tuple #[.slice (some ⟨g, 0, none⟩) m c, .int .i64 k'])) w' := by
  subst hl
  subst hk
  exact ⟨some ⟨g, 0, none⟩, c, by rw [il_len], by rw [il_len]; exact hO.mono h0, kk⟩
section
variable (A B : Option Addr) (m c mm d : Nat) (r : Nat → Option Addr × Nat × Nat) (L : Nat → Nat) (X : Nat → Nat → Int) (M : Nat → Int)
set_option maxRecDepth 100000 in
set_option maxHeartbeats 8000000 in
theorem iFloodOf_any (s : Int) (w : World) (hN : NetAt w A m r B mm L X M) :
    Calls Try.prog 28 #[.agg #[.slice A m c, .slice B mm d], .int .i64 s] w (GiveLI (floodL m L X mm M s) (floodI m L X mm M s) w) := by
  have kA := Keeps.alloc w (.cells #[.slice A m c, .slice B mm d] 27)
  have hB := Blk.new w #[.slice A m c, .slice B mm d] 27
  have HB0 := Lib.hid (show (w.alloc (.cells #[.slice A m c, .slice B mm d] 27)).cell? ⟨w.heap.size, 0, none⟩ = some (.slice A m c) from hB.cell 0)
  have HB1 := Lib.hid (show (w.alloc (.cells #[.slice A m c, .slice B mm d] 27)).cell? ⟨w.heap.size, 1, none⟩ = some (.slice B mm d) from hB.cell 1)
  have CC := Lib.hid (nodeIn_any A B m c mm d r L X M s _ (hN.keeps kA))
  have HN := Lib.hid (hN.keeps kA)
  have hmb := hN.mb
  clear hN hB
  cases v1 : nodeB m L X mm M s
  · have HV : Hid (floodL m L X mm M s = [] ∧ floodI m L X mm M s = -1) := Lib.hid (by unfold floodL floodI; rw [v1]; exact ⟨rfl, rfl⟩)
    have V1 := Lib.hid v1
    clear v1
    go_enter Try.func28, Try.ntmps28
    go_wp2_with fail
    refine CC.out.mono ?_
    rintro e w1 ⟨rfl, hk1⟩
    rw [V1.out]
    go_wp2
    go_ret2
    exact GiveLI.nil HV.out.1 HV.out.2 (kA.step hk1)
  · obtain ⟨hnb, k, rfl, hk⟩ := node_true v1
    have ok := net_true hnb
    have h6 := ok.hi
    have h1 := ok.lo
    have HV : Hid (floodL m L X mm M k = il m (fun v => pickF (farF m L (portT X) k) (portT X) v (L v)) ∧ floodI m L X mm M k = tellF L k m) := Lib.hid (by unfold floodL floodI; rw [v1]; exact ⟨rfl, rfl⟩)
    have V1 := Lib.hid v1
    have HOK := Lib.hid ok
    have CF := Lib.hid (fun w' (hK : Keeps (w.alloc (.cells #[.slice A m c, .slice B mm d] 27)) w') => ifars_any A m c r L (portT X) k w' ok.lo ok.hi ((HN.out.keeps hK).ports ok.port) HN.out.len HN.out.lenb ok.node hk)
    have HSRC := Lib.hid (pick_src ok k hk)
    have HDEG := Lib.hid (fun v hv => net_deg ok v hv)
    have HROWS := Lib.hid (HN.out.ports ok.port)
    have HNODE := Lib.hid ok.node
    clear v1 hnb ok
    go_enter Try.func28, Try.ntmps28
    go_wp2_with fail
    refine CC.out.mono ?_
    rintro e w1 ⟨rfl, hk1⟩
    rw [V1.out]
    have q0 := cell_keeps hk1 HB0.out
    go_wp2_with fail
    refine (CF.out _ hk1).mono ?_
    rintro e w2 ⟨gf, cf, rfl, hO, hk2⟩
    have HF := Lib.hid hO
    have q1 := cell_keeps hk2 q0
    have k12 := hk1.step hk2
    clear hO q0 hk1 hk2 HB0 HB1
    generalize hff : farF m L (portT X) k = far at *
    have HFF := Lib.hid hff
    clear hff
    have q1' := cell_keeps (Keeps.alloc w2 (.cells #[.int .i64 (-1)] 3)) q1
    go_wp2_with fail
    refine (slRepeat_any w2.heap.size m (-1) _ (by rw [World.cell?_alloc_at _ _ _ _ rfl]; rfl) h1 h6).mono ?_
    rintro e w3 ⟨go, rfl, hO, hk3⟩
    have k23 := (Keeps.alloc w2 (.cells #[.int .i64 (-1)] 3)).step hk3
    have HO := Lib.hid (hO.mono (lo' := w2.heap.size) (Keeps.alloc w2 (.cells #[.int .i64 (-1)] 3)).size)
    have k13 := k12.step k23
    have HF3 := Lib.hid (HF.out.keeps k23)
    have q2 := cell_keeps k23 q1
    have hsz2 : w.heap.size ≤ w2.heap.size := (kA.step k12).size
    have HGO : Hid (w2.heap.size ≤ go) := Lib.hid HO.out.block.1
    have hgf : Hid (gf ≠ go) := Lib.hid (by have := HF.out.block.2; have := HGO.out; omega)
    clear hO hk3 q1 q1' HF
    go_wp2_with fail
    obtain ⟨wd, rfl⟩ : ∃ wd : World, wd = w3 := ⟨_, rfl⟩
    go_loopw [29, 8] (fun i v wr => ∃ u : Nat, u ≤ m ∧ i = .int .i64 u ∧ v = .int .i64 (tellF L k u) ∧ Hid (OwnInts wr w2.heap.size (some ⟨go, 0, none⟩) m m (il m (fun x => if x < u then pickF far (portT X) x (L x) else -1))) ∧ Gro go wd wr) (fun i _ _ => m - (intOf i).toNat)
    case atStart => exact ⟨0, by omega, rfl, rfl, Lib.hid (by rw [il_congr m _ (fun _ => -1) (fun i _ => by simp)]; exact HO.out), Gro.refl _ _⟩
    case round =>
      obtain ⟨u, hu, rfl, rfl, HU, hG⟩ := hrel
      by_cases hlt : u < m
      · have hui : (u : Int) < m := by omega
        obtain ⟨⟨bA, oA, rfl, hcA0⟩, hrow⟩ := HROWS.out u hlt
        have hcA1 := cell_keeps k13 hcA0
        have hcA := hG.cell hcA1 (by have := World.block_lt_of_cell? _ _ hcA0; have := HGO.out; have := k12.size; dsimp only at *; omega)
        have hLu := HN.out.len u hlt
        have hdeg := HDEG.out u hlt
        have hcap := HN.out.cap u hlt
        have hti := tell_in L k m u (by omega) (by omega) (fun v hv => HDEG.out v (by omega))
        have HTN := Lib.hid (show tellF L k (u + 1) = tellF L k u + (L u : Int) - (if u = k then 0 else 1) from rfl)
        have HNEW : Hid (∀ x, (if x < u + 1 then pickF far (portT X) x (L x) else -1) = if x = u then pickF far (portT X) u (L u) else if x < u then pickF far (portT X) x (L x) else -1) := Lib.hid (fun x => by
          by_cases e : x = u
          · subst e; simp
          · by_cases e2 : x < u
            · rw [if_pos (by omega), if_neg e, if_pos e2]
            · rw [if_neg (by omega), if_neg e, if_neg e2])
        obtain ⟨ra, rn, rc, hrv⟩ : ∃ ra rn rc, r u = (ra, rn, rc) := ⟨_, _, _, rfl⟩
        rw [hrv] at hcA hrow hLu hcap
        dsimp only at hLu hcA hcap
        rw [← hLu] at hdeg HTN
        have HLU := Lib.hid hLu
        have HROW := Lib.hid hrow
        have hrn6 : rn ≤ 6 := by omega
        generalize tellF L k u = tu at *
        clear hLu hrv hcA0 hcA1 hrow
        by_cases huk : u = k
        · have hukb : ((u : Int) == (k : Int)) = true := by simp [huk]
          have HT2 : Hid (tellF L k (u + 1) = tu + (rn : Int)) := Lib.hid (by rw [HTN.out, if_pos huk]; omega)
          have HU2 : Hid (OwnInts wr w2.heap.size (some ⟨go, 0, none⟩) m m (il m (fun x => if x < u + 1 then pickF far (portT X) x (L x) else -1))) := Lib.hid (by
            rw [il_congr m _ (fun x => if x < u then pickF far (portT X) x (L x) else -1) (fun x _ => by
              rw [HNEW.out]
              by_cases e : x = u
              · rw [if_pos e, if_neg (by omega)]
                have := HSRC.out
                rw [huk]; exact this
              · rw [if_neg e])]
            exact HU.out)
          clear huk
          go_wp2
          go_roundw
          case rel => exact ⟨u + 1, by omega, by go_num, by rw [HT2.out], HU2, hG⟩
          case measure => simp [intOf]; omega
        · have hukb : ((u : Int) == (k : Int)) = false := by simp; omega
          have HT2 : Hid (tellF L k (u + 1) = tu + (rn : Int) - 1) := Lib.hid (by rw [HTN.out, if_neg huk])
          clear huk
          go_wp2_with fail
          go_loopw [45] (fun i wi => ∃ p : Nat, p ≤ rn ∧ i = .int .i64 p ∧ Hid (OwnInts wi w2.heap.size (some ⟨go, 0, none⟩) m m (il m (fun x => if x = u then pickF far (portT X) u p else if x < u then pickF far (portT X) x (L x) else -1))) ∧ Gro go wd wi) (fun i _ => rn - (intOf i).toNat)
          case atStart =>
            refine ⟨0, by omega, rfl, Lib.hid ?_, hG⟩
            rw [il_congr m _ (fun x => if x < u then pickF far (portT X) x (L x) else -1) (fun x _ => by
              by_cases e : x = u
              · rw [if_pos e, if_neg (by omega)]; rfl
              · rw [if_neg e])]
            exact HU.out
          case round =>
            clear hG hcA HU
            obtain ⟨p, hp, rfl, HU, hG⟩ := hrel
            by_cases hltp : p < rn
            · have hpi : (p : Int) < rn := by omega
              obtain ⟨bR, oR, rfl, hcR0⟩ := HROW.out p hltp
              have HRB : Hid (bR ≠ go) := Lib.hid (by have := World.block_lt_of_cell? _ _ hcR0; have := HGO.out; have := k12.size; dsimp only at *; omega)
              have hcR := hG.cell (cell_keeps k13 hcR0) (by dsimp only; exact HRB.out)
              have hpm := HNODE.out u p hlt (by rw [← HLU.out]; exact hltp)
              have hfu := (HF3.out).cell u hlt
              rw [il_getD _ _ _ hlt] at hfu
              have hcfu := hG.cell hfu (by dsimp only; exact hgf.out)
              have hfp := (HF3.out).cell (portT X u p) hpm
              rw [il_getD _ _ _ hpm] at hfp
              have hcfp := hG.cell hfp (by dsimp only; exact hgf.out)
              have hco := HU.out.cell u hlt
              rw [il_getD _ _ _ hlt, if_pos rfl] at hco
              have hfz := HU.out.frozen u
              have hpin := pick_in far (portT X) u p
              have HPN := Lib.hid (show pickF far (portT X) u (p + 1) = if (far (portT X u p) == far u - 1) && (decide (pickF far (portT X) u p < 0) || decide (portT X u p < portT X u (pickF far (portT X) u p).toNat)) then (p : Int) else pickF far (portT X) u p from rfl)
              have HSET : Hid (OwnInts (wr.setCell ⟨go, u, none⟩ (.int .i64 p)) w2.heap.size (some ⟨go, 0, none⟩) m m (il m (fun x => if x = u then (p : Int) else if x < u then pickF far (portT X) x (L x) else -1))) := Lib.hid (by
                have h := HU.out.set u (p : Int)
                rw [il_set] at h
                rw [il_congr m _ (fun x => if x = u then (p : Int) else if x = u then pickF far (portT X) u p else if x < u then pickF far (portT X) x (L x) else -1) (fun x _ => by
                  by_cases e : x = u
                  · rw [if_pos e, if_pos e]
                  · rw [if_neg e, if_neg e, if_neg e])]
                exact h)
              have HQR : Hid (∀ q, q < p → wr.cell? ⟨bR, oR + q, none⟩ = some (.int .i64 ((portT X u q : Nat) : Int))) := Lib.hid (fun q hq => by
                obtain ⟨_, _, e, hcq⟩ := HROW.out q (by omega)
                cases e
                exact hG.cell (cell_keeps k13 hcq) (by dsimp only; exact HRB.out))
              have HFB : Hid (-1 ≤ far u ∧ far u < (m : Int)) := Lib.hid (by
                rw [← HFF.out]
                exact ⟨(far_dist m L (portT X) k).low u hlt, dist_lt (A := Adj L (portT X)) (far_dist m L (portT X) k).pred u hlt⟩)
              have hfb1 := HFB.out.1
              have hfb2 := HFB.out.2
              obtain ⟨a, ha⟩ : ∃ a, a = pickF far (portT X) u p := ⟨_, rfl⟩
              obtain ⟨t, ht⟩ : ∃ t, t = portT X u p := ⟨_, rfl⟩
              obtain ⟨fu, hfue⟩ : ∃ fu, fu = far u := ⟨_, rfl⟩
              obtain ⟨ft, hft⟩ : ∃ ft, ft = far t := ⟨_, rfl⟩
              (try dsimp only at hcR)
              rw [← ht] at hcR hpm hcfp HPN
              rw [← ha] at hco hpin HPN
              rw [← hfue] at hcfu HPN hfb1 hfb2
              rw [← hft] at hcfp HPN
              have HA := Lib.hid ha
              clear ha ht hfue hft hcR0 hfu hfp
              have hti : (t : Int) < m := by omega
              by_cases c1 : ft = fu - 1
              · have c1b : (ft == fu - 1) = true := by simp [c1]
                have C1B : Hid ((ft == fu - 1) = true) := Lib.hid c1b
                by_cases c2 : a < 0
                · have HV2 : Hid (pickF far (portT X) u (p + 1) = p) := Lib.hid (by rw [HPN.out, C1B.out]; simp [c2])
                  clear c1
                  go_wp2_with fail
                  go_quiet (fail)
                  go_wp2
                  go_roundw
                  case rel => exact ⟨p + 1, by omega, by go_num, by rw [HV2.out]; exact Lib.hid (HSET.out.keeps (Keeps.drewN _ _)), (hG.step (Gro.set go u wr (.int .i64 p))).step (Gro.drewN _ _ _)⟩
                  case measure => simp [intOf]; omega
                · obtain ⟨q, rfl⟩ := Int.eq_ofNat_of_zero_le (show 0 ≤ a by omega)
                  have hqp : q < p := by omega
                  have hqi : (q : Int) < rn := by omega
                  have hcq := HQR.out q hqp
                  have c2b : decide ((q : Int) < 0) = false := by simp
                  generalize hy : portT X u q = y at *
                  have HY := Lib.hid hy
                  clear hy c1
                  by_cases c3 : t < y
                  · have HV2 : Hid (pickF far (portT X) u (p + 1) = p) := Lib.hid (by rw [HPN.out, C1B.out]; simp [HY.out, c3])
                    have c3i : (t : Int) < (y : Int) := by omega
                    go_wp2_with fail
                    go_quiet (fail)
                    go_wp2
                    go_roundw
                    case rel => exact ⟨p + 1, by omega, by go_num, by rw [HV2.out]; exact Lib.hid (HSET.out.keeps (Keeps.drewN _ _)), (hG.step (Gro.set go u wr (.int .i64 p))).step (Gro.drewN _ _ _)⟩
                    case measure => simp [intOf]; omega
                  · have HV2 : Hid (pickF far (portT X) u (p + 1) = pickF far (portT X) u p) := Lib.hid (by rw [HPN.out, C1B.out]; simp [HY.out, c3]; exact HA.out)
                    have c3i : ¬ (t : Int) < (y : Int) := by omega
                    go_wp2_with fail
                    go_quiet (fail)
                    go_wp2
                    go_roundw
                    case rel => exact ⟨p + 1, by omega, by go_num, by rw [HV2.out]; exact Lib.hid (HU.out.keeps (Keeps.drewN _ _)), hG.step (Gro.drewN _ _ _)⟩
                    case measure => simp [intOf]; omega
              · have c1b : (ft == fu - 1) = false := by simpa using c1
                have HV2 : Hid (pickF far (portT X) u (p + 1) = pickF far (portT X) u p) := Lib.hid (by rw [HPN.out, c1b]; simp; exact HA.out)
                clear c1
                go_wp2_with fail
                go_quiet (fail)
                go_wp2
                go_roundw
                case rel => exact ⟨p + 1, by omega, by go_num, by rw [HV2.out]; exact Lib.hid (HU.out.keeps (Keeps.drewN _ _)), hG.step (Gro.drewN _ _ _)⟩
                case measure => simp [intOf]; omega
            · obtain rfl : p = rn := by omega
              have HU2 : Hid (OwnInts wr w2.heap.size (some ⟨go, 0, none⟩) m m (il m (fun x => if x < u + 1 then pickF far (portT X) x (L x) else -1))) := Lib.hid (by
                rw [il_congr m _ (fun x => if x = u then pickF far (portT X) u p else if x < u then pickF far (portT X) x (L x) else -1) (fun x _ => by rw [HNEW.out, HLU.out])]
                exact HU.out)
              go_wp2
              go_roundw
              case rel => exact ⟨u + 1, by omega, by go_num, by rw [HT2.out], HU2, hG⟩
              case measure => simp [intOf]; omega
      · obtain rfl : u = m := by omega
        have HFIN : Hid (OwnInts wr w2.heap.size (some ⟨go, 0, none⟩) u u (il u (fun v => pickF far (portT X) v (L v)))) := Lib.hid (by
          rw [il_congr u _ (fun x => if x < u then pickF far (portT X) x (L x) else -1) (fun x hx => by rw [if_pos hx])]
          exact HU.out)
        have KF := Gro.keeps hG (kA.step k13) (by have := HGO.out; omega)
        go_wp2_with fail
        refine (slClip_any go u u _ (by omega)).mono ?_
        rintro e w5 ⟨rfl, rfl⟩
        go_wp2
        go_ret2
        exact GiveLI.of HV.out.1 HV.out.2 HFIN.out hsz2 KF
set_option maxRecDepth 100000 in
set_option maxHeartbeats 8000000 in
theorem sFloodOf_any (s : Int) (w : World) (hN : NetAt w A m r B mm L X M) :
    Calls Try.prog 29 #[.agg #[.slice A m c, .slice B mm d], .int .i64 s] w (GiveLI (floodL m L X mm M s) (floodI m L X mm M s) w) := by
  have kA := Keeps.alloc w (.cells #[.slice A m c, .slice B mm d] 27)
  have hB := Blk.new w #[.slice A m c, .slice B mm d] 27
  have HB0 := Lib.hid (show (w.alloc (.cells #[.slice A m c, .slice B mm d] 27)).cell? ⟨w.heap.size, 0, none⟩ = some (.slice A m c) from hB.cell 0)
  have HB1 := Lib.hid (show (w.alloc (.cells #[.slice A m c, .slice B mm d] 27)).cell? ⟨w.heap.size, 1, none⟩ = some (.slice B mm d) from hB.cell 1)
  have CC := Lib.hid (svalidNet_any A B m c mm d r L X M _ (hN.keeps kA))
  have HN := Lib.hid (hN.keeps kA)
  have hmb := hN.mb
  clear hN hB
  cases v1 : netB m L X mm M
  · have HV : Hid (floodL m L X mm M s = [] ∧ floodI m L X mm M s = -1) := Lib.hid (by unfold floodL floodI nodeB; rw [v1]; exact ⟨rfl, rfl⟩)
    have V1 := Lib.hid v1
    clear v1
    go_enter Try.func29, Try.ntmps29
    go_wp2_with fail
    refine CC.out.mono ?_
    rintro e w1 ⟨rfl, hk1⟩
    rw [V1.out]
    go_wp2
    go_ret2
    exact GiveLI.nil HV.out.1 HV.out.2 (kA.step hk1)
  · cases v2 : inB s 0 ((m : Int) - 1)
    · have HV : Hid (floodL m L X mm M s = [] ∧ floodI m L X mm M s = -1) := Lib.hid (by unfold floodL floodI nodeB; rw [v1, v2]; exact ⟨rfl, rfl⟩)
      have V1 := Lib.hid v1
      have V2 := Lib.hid v2
      clear v1 v2
      go_enter Try.func29, Try.ntmps29
      go_wp2_with fail
      refine CC.out.mono ?_
      rintro e w1 ⟨rfl, hk1⟩
      rw [V1.out]
      have q0 := cell_keeps hk1 HB0.out
      go_wp2_with fail
      refine (inRange_any _ _ _ _).mono ?_
      rintro e w2 ⟨rfl, rfl⟩
      rw [V2.out]
      go_wp2
      go_ret2
      exact GiveLI.nil HV.out.1 HV.out.2 (kA.step hk1)
    · have h2 := inB_true v2
      obtain ⟨k, rfl⟩ := Int.eq_ofNat_of_zero_le h2.1
      have hk : k < m := by omega
      have ok := net_true v1
      have h6 := ok.hi
      have HV : Hid (floodL m L X mm M k = il m (fun v => pickF (farF m L (portT X) k) (portT X) v (L v)) ∧ floodI m L X mm M k = tellF L k m) := Lib.hid (by unfold floodL floodI nodeB; rw [v1, v2]; exact ⟨rfl, rfl⟩)
      have V1 := Lib.hid v1
      have V2 := Lib.hid v2
      have CF := Lib.hid (fun w' (hK : Keeps (w.alloc (.cells #[.slice A m c, .slice B mm d] 27)) w') => sfars_any A B m c mm d r L (portT X) k w' ok.hi ((HN.out.keeps hK).ports ok.port) HN.out.len HN.out.lenb ok.node hk)
      have HPI := Lib.hid (fun v hv => pick_iff ok k hk v hv)
      have HDEG := Lib.hid (fun v hv => net_deg ok v hv)
      have HROWS := Lib.hid (HN.out.ports ok.port)
      have HNODE := Lib.hid ok.node
      clear v1 v2 ok h2
      go_enter Try.func29, Try.ntmps29
      go_wp2_with fail
      refine CC.out.mono ?_
      rintro e w1 ⟨rfl, hk1⟩
      rw [V1.out]
      have q0 := cell_keeps hk1 HB0.out
      have q1 := cell_keeps hk1 HB1.out
      go_wp2_with fail
      refine (inRange_any _ _ _ _).mono ?_
      rintro e w2 ⟨rfl, rfl⟩
      rw [V2.out]
      go_wp2_with fail
      refine (CF.out _ hk1).mono ?_
      rintro e w2 ⟨gf, cf, rfl, hO, hk2⟩
      have HF := Lib.hid hO
      have Q0 := Lib.hid (cell_keeps hk2 q0)
      have k12 := hk1.step hk2
      clear hO q0 q1 hk1 hk2 HB0 HB1
      generalize hff : farF m L (portT X) k = far at *
      have HFF := Lib.hid hff
      clear hff
      have hsz2 : w.heap.size ≤ w2.heap.size := (kA.step k12).size
      have hq0 := Q0.out
      go_wp2_with fail
      go_loopw [9, 7, 8] (fun i o v wr => ∃ (u co : Nat) (Ao : Option Addr), u ≤ m ∧ i = .int .i64 u ∧ o = .slice Ao u co ∧ v = .int .i64 (tellF L k u) ∧ Hid (OwnInts wr w2.heap.size Ao u co (il u (fun x => pickF far (portT X) x (L x)))) ∧ Keeps w2 wr) (fun i _ _ _ => m - (intOf i).toNat)
      case atStart => exact ⟨0, 0, _, by omega, rfl, rfl, rfl, Lib.hid (OwnInts.made w2 w2.heap.size (Nat.le_refl _)), Keeps.alloc _ _⟩
      case round =>
        clear hq0
        obtain ⟨u, co, Ao, hu, rfl, rfl, rfl, HU, hG⟩ := hrel
        by_cases hlt : u < m
        · have hui : (u : Int) < m := by omega
          obtain ⟨⟨bA, oA, rfl, hcA0⟩, hrow⟩ := HROWS.out u hlt
          have HCA := Lib.hid (cell_keeps k12 hcA0)
          have hLu := HN.out.len u hlt
          have hdeg := HDEG.out u hlt
          have hcap := HN.out.cap u hlt
          have hti := tell_in L k m u (by omega) (by omega) (fun v hv => HDEG.out v (by omega))
          have HTN := Lib.hid (show tellF L k (u + 1) = tellF L k u + (L u : Int) - (if u = k then 0 else 1) from rfl)
          obtain ⟨ra, rn, rc, hrv⟩ : ∃ ra rn rc, r u = (ra, rn, rc) := ⟨_, _, _, rfl⟩
          rw [hrv] at HCA hrow hLu hcap
          dsimp only at hLu hcap
          rw [← hLu] at hdeg HTN
          have HLU := Lib.hid hLu
          have HROW := Lib.hid hrow
          have hrn6 : rn ≤ 6 := by omega
          have HPK := Lib.hid (HPI.out u hlt)
          generalize tellF L k u = tu at *
          clear hLu hrv hcA0 hrow
          have q0 := cell_keeps hG Q0.out
          have hcA := cell_keeps hG HCA.out
          go_wp2_with fail
          go_loopw [11, 10] (fun i a wi => ∃ p : Nat, p ≤ rn ∧ i = .int .i64 p ∧ a = .int .i64 (pickF far (portT X) u p) ∧ Keeps wr wi) (fun i _ _ => rn - (intOf i).toNat)
          case atStart => exact ⟨0, by omega, rfl, rfl, Keeps.refl _⟩
          case round =>
            clear q0 hcA
            obtain ⟨p, hp, rfl, rfl, hK⟩ := hrel
            have hG2 := hG.step hK
            have q0 := cell_keeps hG2 Q0.out
            have hcA := cell_keeps hG2 HCA.out
            have hpin := pick_in far (portT X) u p
            by_cases hltp : p < rn
            · have hpi : (p : Int) < rn := by omega
              obtain ⟨bR, oR, rfl, hcR0⟩ := HROW.out p hltp
              have hcR := cell_keeps (k12.step hG2) hcR0
              have hpm := HNODE.out u p hlt (by rw [← HLU.out]; exact hltp)
              have hfu := (HF.out).cell u hlt
              rw [il_getD _ _ _ hlt] at hfu
              have hcfu := cell_keeps hG2 hfu
              have hfp := (HF.out).cell (portT X u p) hpm
              rw [il_getD _ _ _ hpm] at hfp
              have hcfp := cell_keeps hG2 hfp
              have HPN := Lib.hid (show pickF far (portT X) u (p + 1) = if (far (portT X u p) == far u - 1) && (decide (pickF far (portT X) u p < 0) || decide (portT X u p < portT X u (pickF far (portT X) u p).toNat)) then (p : Int) else pickF far (portT X) u p from rfl)
              have HQR : Hid (∀ q, q < p → wr.cell? ⟨bR, oR + q, none⟩ = some (.int .i64 ((portT X u q : Nat) : Int))) := Lib.hid (fun q hq => by
                obtain ⟨_, _, e, hcq⟩ := HROW.out q (by omega)
                cases e
                exact cell_keeps (k12.step hG2) hcq)
              have HFB : Hid (-1 ≤ far u ∧ far u < (m : Int)) := Lib.hid (by
                rw [← HFF.out]
                exact ⟨(far_dist m L (portT X) k).low u hlt, dist_lt (A := Adj L (portT X)) (far_dist m L (portT X) k).pred u hlt⟩)
              have hfb1 := HFB.out.1
              have hfb2 := HFB.out.2
              obtain ⟨a, ha⟩ : ∃ a, a = pickF far (portT X) u p := ⟨_, rfl⟩
              obtain ⟨t, ht⟩ : ∃ t, t = portT X u p := ⟨_, rfl⟩
              obtain ⟨fu, hfue⟩ : ∃ fu, fu = far u := ⟨_, rfl⟩
              obtain ⟨ft, hft⟩ : ∃ ft, ft = far t := ⟨_, rfl⟩
              (try dsimp only at hcR)
              rw [← ht] at hcR hpm hcfp HPN
              rw [← ha] at hpin HPN ⊢
              rw [← hfue] at hcfu HPN hfb1 hfb2
              rw [← hft] at hcfp HPN
              have HA := Lib.hid ha
              clear ha ht hfue hft hcR0 hfu hfp
              have hti' : (t : Int) < m := by omega
              by_cases c1 : ft = fu - 1
              · have c1b : (ft == fu - 1) = true := by simp [c1]
                have C1B : Hid ((ft == fu - 1) = true) := Lib.hid c1b
                by_cases c2 : a < 0
                · have HV2 : Hid (pickF far (portT X) u (p + 1) = p) := Lib.hid (by rw [HPN.out, C1B.out]; simp [c2])
                  clear c1
                  go_wp2_with fail
                  go_quiet (fail)
                  go_wp2
                  go_roundw
                  case rel => exact ⟨p + 1, by omega, by go_num, by rw [HV2.out], hK.step (Keeps.drewN _ _)⟩
                  case measure => simp [intOf]; omega
                · obtain ⟨q, rfl⟩ := Int.eq_ofNat_of_zero_le (show 0 ≤ a by omega)
                  have hqp : q < p := by omega
                  have hqi : (q : Int) < rn := by omega
                  have hcq := HQR.out q hqp
                  have c2b : decide ((q : Int) < 0) = false := by simp
                  generalize hy : portT X u q = y at *
                  have HY := Lib.hid hy
                  clear hy c1
                  by_cases c3 : t < y
                  · have HV2 : Hid (pickF far (portT X) u (p + 1) = p) := Lib.hid (by rw [HPN.out, C1B.out]; simp [HY.out, c3])
                    have c3i : (t : Int) < (y : Int) := by omega
                    go_wp2_with fail
                    go_quiet (fail)
                    go_wp2
                    go_roundw
                    case rel => exact ⟨p + 1, by omega, by go_num, by rw [HV2.out], hK.step (Keeps.drewN _ _)⟩
                    case measure => simp [intOf]; omega
                  · have HV2 : Hid (pickF far (portT X) u (p + 1) = (q : Int)) := Lib.hid (by rw [HPN.out, C1B.out]; simp [HY.out, c3]; omega)
                    have c3i : ¬ (t : Int) < (y : Int) := by omega
                    go_wp2_with fail
                    go_quiet (fail)
                    go_wp2
                    go_roundw
                    case rel => exact ⟨p + 1, by omega, by go_num, by rw [HV2.out], hK.step (Keeps.drewN _ _)⟩
                    case measure => simp [intOf]; omega
              · have c1b : (ft == fu - 1) = false := by simpa using c1
                have HV2 : Hid (pickF far (portT X) u (p + 1) = a) := Lib.hid (by rw [HPN.out, c1b]; simp)
                clear c1
                go_wp2_with fail
                go_quiet (fail)
                go_wp2
                go_roundw
                case rel => exact ⟨p + 1, by omega, by go_num, by rw [HV2.out], hK.step (Keeps.drewN _ _)⟩
                case measure => simp [intOf]; omega
            · obtain rfl : p = rn := by omega
              have HU3 := Lib.hid (HU.out.keeps hK)
              have hz3 := hG2.size
              have HIL := Lib.hid (il_succ u (fun x => pickF far (portT X) x (L x)))
              have HPE : Hid (pickF far (portT X) u p = pickF far (portT X) u (L u)) := Lib.hid (by rw [HLU.out])
              by_cases hge : 0 ≤ pickF far (portT X) u p
              · have HT2 : Hid (tellF L k (u + 1) = tu + (p : Int) - 1) := Lib.hid (by rw [HTN.out, if_neg (HPK.out.1 (by rw [← HPE.out]; exact hge))])
                obtain ⟨a, ha⟩ : ∃ a, a = pickF far (portT X) u p := ⟨_, rfl⟩
                rw [← ha] at hge hpin HPE ⊢
                clear ha
                go_wp2_with (first | (at_builtin; refine wp_app_int rfl _ _ rfl w2.heap.size Ao u co (il u (fun x => pickF far (portT X) x (L x))) _ rfl HU3.out _ rfl (by omega) hz3 ?_; intro g' c' w6 hO6 hg6; rw [HPE.out, ← HIL.out] at hO6; have q6 := World.grownBy.cell hg6 q0 (by intro e; have := (own_block HU3.out _ e.symm).1; have := World.block_lt_of_cell? _ _ Q0.out; dsimp only at *; omega); have hcA6 := World.grownBy.cell hg6 hcA (by intro e; have := (own_block HU3.out _ e.symm).1; have := World.block_lt_of_cell? _ _ HCA.out; dsimp only at *; omega)))
                go_roundw
                case rel => exact ⟨u + 1, c', some ⟨g', 0, none⟩, by omega, by go_num, rfl, by rw [HT2.out], Lib.hid hO6, hG2.grown HU3.out (Nat.le_refl _) hg6⟩
                case measure => simp [intOf]; omega
              · have HT2 : Hid (tellF L k (u + 1) = tu + (p : Int)) := Lib.hid (by
                  have : u = k := Classical.byContradiction (fun h => hge (by rw [HPE.out]; exact HPK.out.2 h))
                  rw [HTN.out, if_pos this]; omega)
                obtain ⟨a, ha⟩ : ∃ a, a = pickF far (portT X) u p := ⟨_, rfl⟩
                rw [← ha] at hge hpin HPE ⊢
                clear ha
                go_wp2_with (first | (at_builtin; refine wp_app_int rfl _ _ rfl w2.heap.size Ao u co (il u (fun x => pickF far (portT X) x (L x))) _ rfl HU3.out _ rfl (by omega) hz3 ?_; intro g' c' w6 hO6 hg6; rw [HPE.out, ← HIL.out] at hO6; have q6 := World.grownBy.cell hg6 q0 (by intro e; have := (own_block HU3.out _ e.symm).1; have := World.block_lt_of_cell? _ _ Q0.out; dsimp only at *; omega); have hcA6 := World.grownBy.cell hg6 hcA (by intro e; have := (own_block HU3.out _ e.symm).1; have := World.block_lt_of_cell? _ _ HCA.out; dsimp only at *; omega)))
                go_roundw
                case rel => exact ⟨u + 1, c', some ⟨g', 0, none⟩, by omega, by go_num, rfl, by rw [HT2.out], Lib.hid hO6, hG2.grown HU3.out (Nat.le_refl _) hg6⟩
                case measure => simp [intOf]; omega
        · obtain rfl : u = m := by omega
          have hAt : ∃ g, Ao = some ⟨g, 0, none⟩ := HU.out.at (by omega)
          obtain ⟨g, rfl⟩ := hAt
          go_wp2
          go_ret2
          exact GiveLI.of HV.out.1 HV.out.2 HU.out hsz2 ((kA.step k12).step hG)
end
end Go.Proofs.Ytdjilgbcpdlkfaa
