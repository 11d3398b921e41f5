/- Contracts of the helpers of laws.go for lists of lists: square5, product5, times5, unit5. -/
import Derived.Test.YtiinceflafigeaaLaw
import Derived.Test.YtiinceflafigeaaSimPure
import Derived.Test.YtiinceflafigeaaSq
import Derived.StillTailTactics
import Derived.BigQuiet
namespace Go.Proofs.Ytiinceflafigeaa
open Go.RowKit

/-- The rows of a list of lists of known lengths. -/
theorem RdR.atN {w : World} {a : Option Addr} {n m k : Nat} {R : List (List Int)} (h : RdR w (.slice a n k) R) (hn : R.length = n) (hp : 0 < n) (hr : ∀ i, i < n → (gR R i).length = m) (hm : 0 < m) : ∃ b off, a = some ⟨b, off, none⟩ ∧ b < w.heap.size ∧ ∀ i, i < n → ∃ br or kr, w.cell? ⟨b, off + i, none⟩ = some (.slice (some ⟨br, or, none⟩) m kr) ∧ br < w.heap.size ∧ ∀ j, j < m → w.cell? ⟨br, or + j, none⟩ = some (.int .i64 (gI (gR R i) j)) := by
  subst hn
  obtain ⟨b, off, cap, he, _, _, hb, hc⟩ := h.cells hp
  injection he with e1 _ _
  refine ⟨b, off, e1, hb, fun i hi => ?_⟩
  obtain ⟨u, hu, hrd⟩ := hc i hi
  obtain ⟨br, or, kr, rfl, _, _, hbr, hcr⟩ := hrd.cells (by rw [hr i hi]; exact hm)
  refine ⟨br, or, kr, by rw [hu, hr i hi], hbr, fun j hj => hcr j (by rw [hr i hi]; exact hj)⟩

set_option maxHeartbeats 1000000 in
theorem square5_c (a : Option Addr) (n k : Nat) (R : List (List Int)) (w : World) (h : RdR w (.slice a n k) R) (hn : R.length = n) (hr : ∀ i, i < n → (gR R i).length = n) (hp : 0 < n) (h24 : n ≤ 1000) :
    Calls Try.prog 78 #[.slice a n k, .int .i64 (n : Int)] w fun e w' => e = .returned (.bool true) ∧ w = w' := by
  obtain ⟨b, off, rfl, hb, hc⟩ := h.atN hn hp hr hp
  have HC := Lib.hid hc
  clear hc h hr hn
  have hnn : ((n : Int) != (n : Int)) = false := by simp
  have hnn2 : ((n : Int) == (n : Int)) = true := by simp
  go_enter Try.func78, Try.ntmps78
  go_wp2
  go_loop [5] (fun iv => ∃ k : Nat, k ≤ n ∧ iv = .int .i64 (k : Int)) (fun iv => n - (intOf iv).toNat)
  case atStart => exact ⟨0, Nat.zero_le _, rfl⟩
  case round =>
    obtain ⟨i, hi, rfl⟩ := hrel
    by_cases hlt : i < n
    · obtain ⟨br, or, kr, d0, _, _⟩ := HC.out i hlt
      have hki : (i : Int) < (n : Int) := by omega
      have hk0 : (0 : Int) ≤ (i : Int) := by omega
      go_wp2
      go_round
      case rel => exact ⟨i + 1, by omega, by go_num⟩
      case measure => simp [intOf]; omega
    · have hki : ¬ (i : Int) < (n : Int) := by omega
      go_wp2
      go_ret
      exact ⟨rfl, rfl⟩

/-- The sum of the products of the first k numbers. -/
def dotP (xs ys : List Int) (k : Nat) : Int := sumTo (fun i => gI xs i * gI ys i) k
theorem dotP_succ (xs ys : List Int) (k : Nat) : dotP xs ys (k + 1) = dotP xs ys k + gI xs k * gI ys k := rfl
theorem dotP_bd {xs ys : List Int} {n : Nat} (hb : ∀ i, i < n → -100000000000000000 ≤ gI xs i * gI ys i ∧ gI xs i * gI ys i ≤ 100000000000000000) {k : Nat} (hk : k ≤ n) (h24 : n ≤ 24) : -2400000000000000000 ≤ dotP xs ys k ∧ dotP xs ys k ≤ 2400000000000000000 := by
  have := sumTo_bound (f := fun i => gI xs i * gI ys i) (n := k) (-100000000000000000) 100000000000000000 (fun i hi => hb i (by omega))
  unfold dotP
  omega
set_option maxHeartbeats 2000000 in
theorem product5_c (a a' : Option Addr) (n k k' : Nat) (xs ys : List Int) (w : World) (h : Rd w (.slice a n k) xs) (h' : Rd w (.slice a' n k') ys) (hx : xs.length = n) (hy : ys.length = n) (hp : 0 < n) (h24 : n ≤ 24) (hb : ∀ i, i < n → -100000000000000000 ≤ gI xs i * gI ys i ∧ gI xs i * gI ys i ≤ 100000000000000000) :
    Calls Try.prog 41 #[.slice a n k, .slice a' n k'] w fun e w' => e = .returned (.int .i64 (dotP xs ys n)) ∧ Drew w w' := by
  subst hx
  obtain ⟨b, off, cap, he, _, _, hbl, hc⟩ := h.cells hp
  injection he with e1 _ _
  subst e1
  obtain ⟨b', off', cap', he', _, _, hbl', hc'⟩ := h'.cells (by omega)
  injection he' with e1' _ _
  subst e1'
  have HB := Lib.hid hb
  have HC := Lib.hid hc
  have HC' := Lib.hid (fun i (hi : i < xs.length) => hc' i (by omega))
  generalize hn : xs.length = n at *
  clear hb hc hc' h h' hy hn
  go_enter Try.func41, Try.ntmps41
  go_wp2
  go_loopw [5, 6] (fun tv iv wr => ∃ k : Nat, k ≤ n ∧ iv = .int .i64 (k : Int) ∧ tv = .int .i64 (dotP xs ys k) ∧ Drew w wr) (fun _ iv _ => n - (intOf iv).toNat)
  case atStart => exact ⟨0, Nat.zero_le _, rfl, rfl, Drew.refl _⟩
  case round =>
    obtain ⟨i, hi, rfl, rfl, hd⟩ := hrel
    obtain ⟨wo, rfl⟩ : ∃ wo : World, wo = wr := ⟨_, rfl⟩
    have hdb := hd.below w.heap.size
    by_cases hlt : i < n
    · have dx : wo.cell? ⟨b, off + i, none⟩ = some (.int .i64 (gI xs i)) := by rw [hdb.cell (p := ⟨b, off + i, none⟩) hbl]; exact HC.out i hlt
      have dy : wo.cell? ⟨b', off' + i, none⟩ = some (.int .i64 (gI ys i)) := by rw [hdb.cell (p := ⟨b', off' + i, none⟩) hbl']; exact HC'.out i hlt
      have hki : (i : Int) < (n : Int) := by omega
      have hk0 : (0 : Int) ≤ (i : Int) := by omega
      have hbd := dotP_bd HB.out hi h24
      have hpr := HB.out i hlt
      have HS := Lib.hid (dotP_succ xs ys i)
      have HD := Lib.hid hd
      clear hd hdb
      generalize gI xs i = x at *
      generalize gI ys i = y at *
      generalize dotP xs ys i = t at *
      generalize hz : x * y = z at *
      have hz2 : IntKind.i64.wrap (x * y) = z := by rw [hz]; exact IntWalk.i64_in _ (by omega)
      have hz3 : IntKind.i64.wrap z = z := IntWalk.i64_in _ (by omega)
      have hz4 : IntKind.i64.wrap (t + z) = t + z := IntWalk.i64_in _ (by omega)
      go_wp2_with fail
      go_quiet (fail)
      go_wp2
      go_roundw
      case rel => exact ⟨i + 1, by omega, by go_num, by rw [HS.out], HD.out.trans (Drew.one _ _)⟩
      case measure => simp [intOf]; omega
    · have hki : ¬ (i : Int) < (n : Int) := by omega
      have hie : i = n := by omega
      subst hie
      go_wp2
      go_ret
      exact ⟨rfl, hd⟩

/-- A row of a product while it is summed up. -/
def rowT (A B : List (List Int)) (n i k j : Nat) : List Int := (List.range n).map fun c => sumTo (fun t => gI (gR A i) t * gI (gR B t) c) (if c < j then k + 1 else k)
@[simp] theorem rowT_len (A B : List (List Int)) (n i k j : Nat) : (rowT A B n i k j).length = n := by simp [rowT]
theorem gI_rowT {A B : List (List Int)} {n i k j c : Nat} (h : c < n) : gI (rowT A B n i k j) c = sumTo (fun t => gI (gR A i) t * gI (gR B t) c) (if c < j then k + 1 else k) := by rw [gI_lt (by simpa using h)]; simp [rowT]
theorem rowT_zero (A B : List (List Int)) (n i : Nat) : rowT A B n i 0 0 = zeroL n := by
  apply gI_ext (by simp)
  intro c hc
  rw [gI_rowT (by simpa using hc), gI_zeroL, if_neg (by omega)]; rfl
theorem rowT_step {A B : List (List Int)} {n i k j : Nat} (hj : j < n) : (rowT A B n i k j).set j (gI (rowT A B n i k j) j + gI (gR A i) k * gI (gR B k) j) = rowT A B n i k (j + 1) := by
  apply gI_ext (by simp)
  intro c hc
  have hc' : c < n := by simpa using hc
  rw [gI_set, gI_rowT hj, gI_rowT hc', gI_rowT hc', rowT_len, if_neg (show ¬ j < j by omega)]
  by_cases e : j = c
  · subst e; rw [if_pos ⟨rfl, hj⟩, if_pos (by omega), sumTo_succ]
  · rw [if_neg (fun h => e h.1)]
    by_cases e2 : c < j
    · rw [if_pos e2, if_pos (by omega)]
    · rw [if_neg e2, if_neg (by omega)]
theorem rowT_next {A B : List (List Int)} {n i k : Nat} : rowT A B n i k n = rowT A B n i (k + 1) 0 := by
  apply gI_ext (by simp)
  intro c hc
  have hc' : c < n := by simpa using hc
  rw [gI_rowT hc', gI_rowT hc', if_pos hc', if_neg (by omega)]
/-- The product of two lists of lists. -/
def mulR (A B : List (List Int)) (n : Nat) : List (List Int) := (List.range n).map fun i => rowT A B n i n 0
theorem rowT_bd {A B : List (List Int)} {n i k j c : Nat} (h24 : n ≤ 24) (hk : k < n) (hc : c < n) (hA : ∀ t, t < n → -1 ≤ gI (gR A i) t ∧ gI (gR A i) t ≤ 1) (hB : ∀ t, t < n → -1677721500000 ≤ gI (gR B t) c ∧ gI (gR B t) c ≤ 1677721500000) : -50000000000000 ≤ gI (rowT A B n i k j) c ∧ gI (rowT A B n i k j) c ≤ 50000000000000 := by
  rw [gI_rowT hc]
  have hm : (if c < j then k + 1 else k) ≤ n := by split <;> omega
  have := sumTo_bound (f := fun t => gI (gR A i) t * gI (gR B t) c) (n := if c < j then k + 1 else k) (-1677721500000) 1677721500000 (fun t ht => by
    have := mul_abs_le (B := 1) (C := 1677721500000) (hA t (by omega)) (hB t (by omega)); omega)
  generalize (if c < j then k + 1 else k) = q at *
  omega
/-- A list of n lists. -/
def RvM (w : World) (n : Nat) (R : List (List Int)) (e : Ending) (w' : World) : Prop := ∃ a k, e = .returned (.slice a n k) ∧ RdR w' (.slice a n k) R ∧ Below w.heap.size w w'
set_option maxRecDepth 100000 in
set_option maxHeartbeats 4000000 in
theorem times5_c (a a' : Option Addr) (n k k' : Nat) (A B : List (List Int)) (w : World) (h : RdR w (.slice a n k) A) (h' : RdR w (.slice a' n k') B) (hA : A.length = n) (hB : B.length = n) (hp : 0 < n) (h24 : n ≤ 24) (hrA : ∀ i, i < n → (gR A i).length = n) (hrB : ∀ i, i < n → (gR B i).length = n)
    (bA : ∀ i, i < n → ∀ t, t < n → -1 ≤ gI (gR A i) t ∧ gI (gR A i) t ≤ 1) (bB : ∀ t, t < n → ∀ c, c < n → -1677721500000 ≤ gI (gR B t) c ∧ gI (gR B t) c ≤ 1677721500000) :
    Calls Try.prog 79 #[.slice a n k, .slice a' n k'] w (RvM w n (mulR A B n)) := by
  obtain ⟨i0, hi, hz0, hz1, hz2⟩ := info_parts Try.infoI
  obtain ⟨j0, ji, jz0, jz1, jz2⟩ := info_parts Try.infoII
  obtain ⟨bAd, oA, rfl, hbA, hcA⟩ := h.atN hA hp hrA hp
  obtain ⟨bBd, oB, rfl, hbB, hcB⟩ := h'.atN hB hp hrB hp
  have HCA := Lib.hid hcA
  have HCB := Lib.hid hcB
  have HBA := Lib.hid bA
  have HBB := Lib.hid bB
  clear h h' hA hB hrA hrB hcA hcB bA bB
  go_enter Try.func79, Try.ntmps79
  go_wp2_with fail
  go_loopw [5, 6] (fun v iv wr => ∃ (i : Nat) (vs : List Value), i ≤ n ∧ iv = .int .i64 (i : Int) ∧ GrowM 2 24 wr w.heap.size v vs ((List.range i).map fun x => rowT A B n x n 0) ∧ Below w.heap.size w wr) (fun _ iv _ => n - (intOf iv).toNat)
  case atStart => exact ⟨0, _, Nat.zero_le _, rfl, GrowM.empty _ _ w _ _ rfl (Nat.le_refl _), (Below.refl _ _).alloc (Nat.le_refl _) _⟩
  case round =>
    obtain ⟨i, vs, hin, rfl, hown, hbl⟩ := hrel
    obtain ⟨wo, rfl⟩ : ∃ wo : World, wo = wr := ⟨_, rfl⟩
    have hsz := hbl.size
    by_cases hlt : i < n
    · have hki : (i : Int) < (n : Int) := by omega
      have hk0 : (0 : Int) ≤ (i : Int) := by omega
      go_wp2_with (at_make; refine wpList_make_full _ rfl (.tmp 18) (.tmp 18) 24 rfl wo.heap.size 2 i0 (.int .i64 0) 1 Try.underlying24 hi hz0 hz1 _ _ _ _ n rfl rfl rfl rfl ?c1 ?c2 ?c3 ?_)
      case c1 => rw [hz2]; omega
      case c2 => unfold maxLen; omega
      case c3 => exact Nat.le_refl _
      intro w2 hown2 hgrow2
      have hb2 : Below wo.heap.size wo w2 := (Below.refl _ _).grown hgrow2 (Nat.le_refl _) (by simp)
      rw [toList_madeCells_one] at hown2
      have ho2 := own_made hown2
      have hg2 := (ho2.block _ rfl).2
      clear hown2 hgrow2
      rw [← rowT_zero A B n i] at ho2
      have hblk : ∀ b, OwnM.mine u5 (fun i => vs.getD i (.slice none 0 0)) ((List.range i).map fun x => rowT A B n x n 0) b → w.heap.size ≤ b ∧ b < wo.heap.size := hown.own.block
      have hown1 := hown.below hb2
      have hbl1 := hbl.trans (hb2.mono hsz)
      clear hown hbl hb2
      have HO2 := Lib.hid ho2
      clear ho2
      go_wp2_with fail
      go_loopw [8] (fun kv wr => ∃ k : Nat, k ≤ n ∧ kv = .int .i64 (k : Int) ∧ OwnI wr wo.heap.size (.slice (some ⟨wo.heap.size, 0, none⟩) n n) (rowT A B n i k 0) ∧ Keeps (fun b => b = wo.heap.size) w2 wr) (fun kv _ => n - (intOf kv).toNat)
      case atStart => exact ⟨0, Nat.zero_le _, rfl, HO2.out, Keeps.refl _ _⟩
      case round =>
        obtain ⟨k, hk, rfl, ho, hkp⟩ := hrel
        clear HO2
        obtain ⟨wp, rfl⟩ : ∃ wp : World, wp = wr := ⟨_, rfl⟩
        by_cases hltk : k < n
        · have hkk : (k : Int) < (n : Int) := by omega
          have HO := Lib.hid ho
          have HKP := Lib.hid hkp
          clear ho hkp
          go_wp2_with fail
          go_loopw [9] (fun jv wr => ∃ j : Nat, j ≤ n ∧ jv = .int .i64 (j : Int) ∧ OwnI wr wo.heap.size (.slice (some ⟨wo.heap.size, 0, none⟩) n n) (rowT A B n i k j) ∧ Keeps (fun b => b = wo.heap.size) w2 wr) (fun jv _ => n - (intOf jv).toNat)
          case atStart => exact ⟨0, Nat.zero_le _, rfl, HO.out, HKP.out⟩
          case round =>
            obtain ⟨j, hj, rfl, ho, hkp⟩ := hrel
            clear HO HKP
            obtain ⟨wq, rfl⟩ : ∃ wq : World, wq = wr := ⟨_, rfl⟩
            by_cases hltj : j < n
            · obtain ⟨bra, ora, kra, d1, hbra, d2⟩ := HCA.out i hlt
              obtain ⟨brb, orb, krb, d3, hbrb, d4⟩ := HCB.out k hltk
              have d2 := d2 k hltk
              have d4 := d4 j hltj
              have keep : ∀ (p : Addr), p.block < w.heap.size → wq.cell? p = w.cell? p := fun p hp => (hkp.cell (p := p) (by have := hbl1.size; omega) (by show ¬ p.block = wo.heap.size; omega)).trans (hbl1.cell (p := p) hp)
              rw [← keep _ (show (⟨bAd, oA + i, none⟩ : Addr).block < w.heap.size from hbA)] at d1
              rw [← keep _ (show (⟨bra, ora + k, none⟩ : Addr).block < w.heap.size from hbra)] at d2
              rw [← keep _ (show (⟨bBd, oB + k, none⟩ : Addr).block < w.heap.size from hbB)] at d3
              rw [← keep _ (show (⟨brb, orb + j, none⟩ : Addr).block < w.heap.size from hbrb)] at d4
              have hb1 := HBA.out i hlt k hltk
              have hb2 := HBB.out k hltk j hltj
              have hb3 := rowT_bd (A := A) (B := B) (i := i) (k := k) (j := j) (c := j) h24 hltk hltj (HBA.out i hlt) (fun t ht => HBB.out t ht j hltj)
              have ho4 : OwnI wq wo.heap.size (.slice (some ⟨wo.heap.size, 0, none⟩) (rowT A B n i k j).length n) (rowT A B n i k j) := by simpa using ho
              have cz := ho4.cell j (by simp; omega)
              have fz := ho4.free j
              have hset := ho4.set j (gI (rowT A B n i k j) j + gI (gR A i) k * gI (gR B k) j)
              rw [rowT_step hltj, rowT_len] at hset
              have hk3 := hkp.setCell (p := ⟨wo.heap.size, j, none⟩) rfl (.int .i64 (gI (rowT A B n i k j) j + gI (gR A i) k * gI (gR B k) j))
              have hmul := mul_abs_le (B := 1) (C := 1677721500000) hb1 hb2
              have HS := Lib.hid hset
              have HK := Lib.hid hk3
              have hjj : (j : Int) < (n : Int) := by omega
              have hj0 : (0 : Int) ≤ (j : Int) := by omega
              have hkk0 : (0 : Int) ≤ (k : Int) := by omega
              clear ho ho4 hkp hset hk3 keep
              generalize gI (rowT A B n i k j) j = z at *
              generalize gI (gR A i) k = x at *
              generalize gI (gR B k) j = y at *
              generalize hxy : x * y = t at *
              have e1 : IntKind.i64.wrap (x * y) = t := by rw [hxy]; exact IntWalk.i64_in _ (by omega)
              have e2 : IntKind.i64.wrap t = t := IntWalk.i64_in _ (by omega)
              have e3 : IntKind.i64.wrap (z + t) = z + t := IntWalk.i64_in _ (by omega)
              go_wp2_with fail
              go_still_tail 23, (by kernel_rfl)
              change wpList _ _ _ _ _ wq.drew
              go_wp2
              go_roundw
              case rel => exact ⟨j + 1, by omega, by go_num, HS.out.below (B := (wq.setCell ⟨wo.heap.size, j, none⟩ (.int .i64 (z + t))).heap.size) (Below.refl _ _).drew (Nat.le_refl _), HK.out.drewN 1⟩
              case measure => simp [intOf]; omega
            · have hje : j = n := by omega
              subst hje
              rw [rowT_next] at ho
              have HO := Lib.hid ho
              have HKP := Lib.hid hkp
              clear ho hkp
              go_wp2
              go_roundw
              case rel => exact ⟨k + 1, by omega, by go_num, HO.out, HKP.out⟩
              case measure => simp [intOf]; omega
        · have hke : k = n := by omega
          subst hke
          have hzp := hkp.size
          have hgr4 := hown1.keeps hkp (fun b hb e => by have := (hblk b hb).2; omega)
          have hbl4 := hbl1.trans (hkp.below hbl1.size (fun b e => by omega))
          have hown5 := ho.base_le (base' := w.heap.size) hsz
          have hl5 : ((List.range i).map fun x => rowT A B k x k 0).length = i := by simp
          have q1 : Apart (.slice (some ⟨wo.heap.size, 0, none⟩) k k) u5 := by intro b h1 h2; have := (hblk b (.inl h2)).2; simp [Value.ownBlock] at h1; omega
          have q2 : ∀ x, x < ((List.range i).map fun x => rowT A B k x k 0).length → Apart (vs.getD x (.slice none 0 0)) (.slice (some ⟨wo.heap.size, 0, none⟩) k k) := by intro x hx b h1 h2; have := (hblk b (.inr ⟨x, hx, h1⟩)).2; simp [Value.ownBlock] at h2; omega
          have q3 : ((List.range i).map fun x => rowT A B k x k 0).length ≤ 1000000000 := by rw [hl5]; omega
          have q4 : w.heap.size ≤ wp.heap.size := by have := hbl1.size; omega
          have HY := Lib.hid (show ((List.range i).map fun x => rowT A B k x k 0) ++ [rowT A B k i k 0] = (List.range (i + 1)).map fun x => rowT A B k x k 0 by rw [List.range_succ, List.map_append]; rfl)
          have HL5 := Lib.hid hl5
          clear hl5 ho hkp hown1
          go_wp2_with (at_builtin; refine wpList_pushR rfl (.tmp 55) (.tmp 57) 64 rfl w.heap.size 2 24 j0 Try.underlying64 ji jz0 jz1 jz2 u5 vs ((List.range i).map fun x => rowT A B k x k 0) (.slice (some ⟨wo.heap.size, 0, none⟩) k k) (rowT A B k i k 0) rfl hgr4 _ rfl rfl hown5 q1 q2 q3 q4 ?_; intro g5 cap5 w5 hgr5 hk5 hg5)
          have hbl5 := hbl4.trans (hk5.below q4 (fun b hb => (hblk b (.inl hb)).1))
          rw [HY.out, HL5.out] at hgr5
          go_roundw
          case rel => exact ⟨i + 1, _, by omega, by go_num, hgr5, hbl5⟩
          case measure => simp [intOf]; omega
    · have hie : i = n := by omega
      subst hie
      have hrd := hown.own.rd
      have hl : ((List.range i).map fun x => rowT A B i x i 0).length = i := by simp
      obtain ⟨av, kv, hv⟩ := hrd.len0
      rw [hl] at hv
      subst hv
      have HF : Hid (RvM w i (mulR A B i) (.returned (.slice av i kv)) wo) := Lib.hid ⟨av, kv, rfl, hrd, hbl⟩
      clear hrd hown hl
      go_wp2
      go_ret
      exact HF.out
/-- The rows of ones. -/
def unitR (n : Nat) : List (List Int) := (List.range n).map fun i => unitL n i
set_option maxRecDepth 100000 in
set_option maxHeartbeats 4000000 in
theorem unit5_c (n : Nat) (w : World) (h24 : n ≤ 24) :
    Calls Try.prog 80 #[.int .i64 (n : Int)] w (RvM w n (unitR n)) := by
  obtain ⟨i0, hi, hz0, hz1, hz2⟩ := info_parts Try.infoI
  obtain ⟨j0, ji, jz0, jz1, jz2⟩ := info_parts Try.infoII
  go_enter Try.func80, Try.ntmps80
  go_wp2_with fail
  go_loopw [3, 4] (fun v iv wr => ∃ (i : Nat) (vs : List Value), i ≤ n ∧ iv = .int .i64 (i : Int) ∧ GrowM 2 24 wr w.heap.size v vs ((List.range i).map fun x => unitL n x) ∧ Below w.heap.size w wr) (fun _ iv _ => n - (intOf iv).toNat)
  case atStart => exact ⟨0, _, Nat.zero_le _, rfl, GrowM.empty _ _ w _ _ rfl (Nat.le_refl _), (Below.refl _ _).alloc (Nat.le_refl _) _⟩
  case round =>
    obtain ⟨i, vs, hin, rfl, hown, hbl⟩ := hrel
    obtain ⟨wo, rfl⟩ : ∃ wo : World, wo = wr := ⟨_, rfl⟩
    have hsz := hbl.size
    by_cases hlt : i < n
    · have hki : (i : Int) < (n : Int) := by omega
      have hk0 : (0 : Int) ≤ (i : Int) := by omega
      go_wp2_with (at_make; refine wpList_make_full _ rfl (.tmp 12) (.tmp 12) 24 rfl wo.heap.size 2 i0 (.int .i64 0) 1 Try.underlying24 hi hz0 hz1 _ _ _ _ n rfl rfl rfl rfl ?c1 ?c2 ?c3 ?_)
      case c1 => rw [hz2]; omega
      case c2 => unfold maxLen; omega
      case c3 => exact Nat.le_refl _
      intro w2 hown2 hgrow2
      have hb2 : Below wo.heap.size wo w2 := (Below.refl _ _).grown hgrow2 (Nat.le_refl _) (by simp)
      rw [toList_madeCells_one] at hown2
      have ho2 := own_made hown2
      clear hown2 hgrow2
      have hblk : ∀ b, OwnM.mine u3 (fun i => vs.getD i (.slice none 0 0)) ((List.range i).map fun x => unitL n x) b → w.heap.size ≤ b ∧ b < wo.heap.size := hown.own.block
      have hown1 := hown.below hb2
      have hbl1 := hbl.trans (hb2.mono hsz)
      clear hown hbl hb2
      have ho4 : OwnI w2 wo.heap.size (.slice (some ⟨wo.heap.size, 0, none⟩) (zeroL n).length n) (zeroL n) := by simpa using ho2
      have cz := ho4.cell i (by simp; omega)
      have fz := ho4.free i
      have hset := ho4.set i 1
      have hk3 := (Keeps.refl (fun b => b = wo.heap.size) w2).setCell (p := ⟨wo.heap.size, i, none⟩) rfl (.int .i64 1)
      rw [show (zeroL n).set i 1 = unitL n i from rfl, zeroL_len] at hset
      clear ho4 ho2
      have hzp : w2.heap.size ≤ (w2.setCell ⟨wo.heap.size, i, none⟩ (.int .i64 1)).heap.size := hk3.size
      have hgr4 := hown1.keeps hk3 (fun b hb e => by have := (hblk b hb).2; omega)
      have hbl4 := hbl1.trans (hk3.below hbl1.size (fun b e => by omega))
      have hown5 := hset.base_le (base' := w.heap.size) hsz
      have hl5 : ((List.range i).map fun x => unitL n x).length = i := by simp
      have q1 : Apart (.slice (some ⟨wo.heap.size, 0, none⟩) n n) u3 := by intro b h1 h2; have := (hblk b (.inl h2)).2; simp [Value.ownBlock] at h1; omega
      have q2 : ∀ x, x < ((List.range i).map fun x => unitL n x).length → Apart (vs.getD x (.slice none 0 0)) (.slice (some ⟨wo.heap.size, 0, none⟩) n n) := by intro x hx b h1 h2; have := (hblk b (.inr ⟨x, hx, h1⟩)).2; simp [Value.ownBlock] at h2; omega
      have q3 : ((List.range i).map fun x => unitL n x).length ≤ 1000000000 := by rw [hl5]; omega
      have q4 : w.heap.size ≤ (w2.setCell ⟨wo.heap.size, i, none⟩ (.int .i64 1)).heap.size := by have := hbl1.size; omega
      have HY := Lib.hid (show ((List.range i).map fun x => unitL n x) ++ [unitL n i] = (List.range (i + 1)).map fun x => unitL n x by rw [List.range_succ, List.map_append]; rfl)
      have HL5 := Lib.hid hl5
      clear hl5 hset hk3 hown1
      go_wp2_with (at_builtin; refine wpList_pushR rfl (.tmp 17) (.tmp 19) 64 rfl w.heap.size 2 24 j0 Try.underlying64 ji jz0 jz1 jz2 u3 vs ((List.range i).map fun x => unitL n x) (.slice (some ⟨wo.heap.size, 0, none⟩) n n) (unitL n i) rfl hgr4 w2.heap.size (by simp) rfl hown5 q1 q2 q3 q4 ?_; intro g5 cap5 w5 hgr5 hk5 hg5)
      have hbl5 := hbl4.trans (hk5.below q4 (fun b hb => (hblk b (.inl hb)).1))
      rw [HY.out, HL5.out] at hgr5
      go_roundw
      case rel => exact ⟨i + 1, _, by omega, by go_num, hgr5, hbl5⟩
      case measure => simp [intOf]; omega
    · have hie : i = n := by omega
      subst hie
      have hrd := hown.own.rd
      have hl : ((List.range i).map fun x => unitL i x).length = i := by simp
      obtain ⟨av, kv, hv⟩ := hrd.len0
      rw [hl] at hv
      subst hv
      have HF : Hid (RvM w i (unitR i) (.returned (.slice av i kv)) wo) := Lib.hid ⟨av, kv, rfl, hrd, hbl⟩
      clear hrd hown hl
      go_wp2
      go_ret
      exact HF.out
end Go.Proofs.Ytiinceflafigeaa
