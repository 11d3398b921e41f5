/- Contracts: impl.inverseProximity. -/
import Derived.Test.YtglghdkjppcedaaGreatDoorPart7
import Derived.StillTailTactics
import Derived.Test.YtglghdkjppcedaaGreatDoorPart8
import Derived.Test.YtglghdkjppcedaaGreatDoorPart9
namespace Go.Proofs.YtglghdkjppcedaaGreatDoor
open Go.RowKit

theorem prox_row_len (P S : List Int) (k : Nat) : (proxOf P S k).length ≤ 2 := by
  unfold proxOf
  split
  · simp
  · have := secL_len S k; simp; omega
theorem prox_bnd {P S W : List Int} (hc : CluOk P S W) {k : Nat} (hk : k < P.length) : ∀ m, m < (proxOf P S k).length → 0 ≤ gI (proxOf P S k) m ∧ gI (proxOf P S k) m < (k : Int) := by
  have ha := addOk_clu hc (own := fun _ => 0) (fun _ _ => by omega)
  intro m hm
  have := ha.row k (by rw [prox_len]; exact hk) m (by rw [prox_row hk]; exact hm)
  rwa [prox_row hk] at this
/-- The row k while it is summed up: m rows are added, and a further one before the place c. -/
def ivTo (P S : List Int) (k m c : Nat) : List Int := (List.range P.length).map fun j => if j < k then sumTo (fun x => mI P S (gI (proxOf P S k) x).toNat j) (if j < c then m + 1 else m) else if j = k then 1 else 0
@[simp] theorem ivTo_len (P S : List Int) (k m c : Nat) : (ivTo P S k m c).length = P.length := by simp [ivTo]
theorem gI_ivTo {P S : List Int} {k m c j : Nat} (h : j < P.length) : gI (ivTo P S k m c) j = if j < k then sumTo (fun x => mI P S (gI (proxOf P S k) x).toNat j) (if j < c then m + 1 else m) else if j = k then 1 else 0 := by rw [gI_lt (by simpa using h)]; simp [ivTo]
theorem ivTo_zero {P S : List Int} {k : Nat} (hk : k < P.length) : (zeroL P.length).set k 1 = ivTo P S k 0 0 := by
  apply gI_ext (by simp)
  intro j hj
  have hj' : j < P.length := by simpa using hj
  rw [gI_ivTo hj', gI_set, zeroL_len, gI_zeroL, if_neg (show ¬ j < 0 by omega), sumTo_zero]
  by_cases e : j = k
  · subst e; rw [if_pos ⟨rfl, hk⟩, if_neg (by omega), if_pos rfl]
  · rw [if_neg (fun h => e h.1.symm), if_neg e]; split <;> rfl
theorem ivTo_step {P S : List Int} {k m c : Nat} (_ : k < P.length) (hc : c < k) : (ivTo P S k m c).set c (sumTo (fun x => mI P S (gI (proxOf P S k) x).toNat c) m + mI P S (gI (proxOf P S k) m).toNat c) = ivTo P S k m (c + 1) := by
  apply gI_ext (by simp)
  intro j hj
  have hj' : j < P.length := by simpa using hj
  rw [gI_set, gI_ivTo hj', gI_ivTo hj', ivTo_len]
  by_cases e : c = j
  · subst e; rw [if_pos ⟨rfl, hj'⟩, if_pos hc, if_pos (by omega), sumTo_succ]
  · rw [if_neg (fun h => e h.1)]
    by_cases e2 : j < c
    · rw [if_pos e2, if_pos (show j < c + 1 by omega)]
    · rw [if_neg e2, if_neg (show ¬ j < c + 1 by omega)]
theorem ivTo_next {P S : List Int} {k m : Nat} (_ : k < P.length) : ivTo P S k m k = ivTo P S k (m + 1) 0 := by
  apply gI_ext (by simp)
  intro j hj
  have hj' : j < P.length := by simpa using hj
  rw [gI_ivTo hj', gI_ivTo hj', if_neg (show ¬ j < 0 by omega)]
  by_cases e : j < k
  · simp only [if_pos e]
  · simp only [if_neg e]
theorem ivTo_all {P S W : List Int} (hc : CluOk P S W) {k : Nat} (hk : k < P.length) : ivTo P S k (proxOf P S k).length 0 = mRow P S k := by
  apply gI_ext (by simp)
  intro j hj
  have hj' : j < P.length := by simpa using hj
  rw [gI_ivTo hj', gI_mRow hj', if_neg (show ¬ j < 0 by omega)]
  by_cases e : j < k
  · rw [if_pos e, mI_step hc j hk (by omega), if_neg (show ¬ k = j by omega)]
    have e2 : proxOf P S k = secL S k ++ [gI P k] := by unfold proxOf; rw [if_neg (by omega)]
    rw [e2]
    by_cases hs : 0 ≤ gI S k
    · rw [secL_yes hs, if_pos hs]; simp [sumTo, gI]; omega
    · rw [secL_no hs, if_neg hs]; simp [sumTo, gI]
  · rw [if_neg e]
    by_cases e2 : j = k
    · subst e2; rw [if_pos rfl, mI_self hc hk]
    · rw [if_neg e2, mI_gt hc j k (by omega) hk]

set_option maxRecDepth 100000 in
set_option maxHeartbeats 2000000 in
theorem inverseProximity_c (p s q : Value) (P S W : List Int) (w : World) (hp : Rd w p P) (hs : Rd w s S) (hq : Rd w q W) (hc : CluOk P S W) :
    Calls Tryz.prog 47 #[.agg #[p, s, q]] w (RetR w P.length (mRow P S)) := by
  have hx := Boxed.start w 26 #[p, s, q]
  obtain ⟨a1, k1, rfl⟩ := hp.len0
  have h0 := hc.1.1
  have h24 := hc.1.2.1
  have hcl1 := Lib.hid (show S.length = P.length from hc.1.2.2.1)
  have HC := Lib.hid hc
  clear hc
  have c0 := hx.cell 0
  go_enter Tryz.func47, Tryz.ntmps47
  go_wp2_with fail
  refine (square_c P.length _ h0 (by omega)).mono ?_
  rintro e w1 ⟨g, V, rfl, hR, hb⟩
  have hx1 := hx.trans hb
  have hs1 : w.heap.size + 1 ≤ w1.heap.size := hx1.size
  have hR := hR.base_le (base' := w.heap.size + 1) (Nat.le_of_eq (by simp))
  clear c0
  have c0 := hx1.cell 0
  have c1 := hx1.cell 1
  have c2 := hx1.cell 2
  go_wp2_with fail
  refine (clusterProximates_c _ _ _ P S W _ (hx1.rd hp) (hx1.rd hs) (hx1.rd hq) hcl1.out h0 h24).mono ?_
  rintro e w2 ⟨g2, V2, rfl, hR2, hb2⟩
  have hx2 := hx1.trans hb2
  have hR3 := hR.below hb2
  have hs2 : w1.heap.size ≤ w2.heap.size := hb2.size
  have hlt1 := hR.lt
  have hub : ∀ i, i < P.length → ∀ k, (V i).ownBlock = some k → w.heap.size + 1 ≤ k ∧ k < w1.heap.size := fun i hi k hk => (hR.row i hi).block k hk
  have hpos : ∀ i, i < P.length → ∃ gi cap, V i = .slice (some ⟨gi, 0, none⟩) P.length cap := fun i hi => by
    obtain ⟨gi, cap, e1, _⟩ := hR.pos hi (by simp; omega)
    exact ⟨gi, cap, by simpa using e1⟩
  have hap : ∀ i j, i < P.length → j < P.length → i ≠ j → Apart (V i) (V j) := hR.apart
  clear c0 c1 c2 hR
  go_wp2_with fail
  go_loopw [4, 5, 7, 8, 16, 29, 34] (fun _ _ _ _ i _ _ wr => ∃ k : Nat, k ≤ P.length ∧ i = .int .i64 k ∧ Rows 2 wr (w.heap.size + 1) g P.length V (fun i => if i < k then mRow P S i else zeroL P.length) ∧ Keeps (fun b => w.heap.size + 1 ≤ b ∧ b < w1.heap.size) w2 wr) (fun _ _ _ _ i _ _ _ => P.length - (intOf i).toNat)
  case atStart => exact ⟨0, Nat.zero_le _, rfl, hR3.congr (fun i _ => by simp), Keeps.refl _ _⟩
  case round =>
    obtain ⟨k, hk, rfl, hrow, hkp⟩ := hrel
    clear hR3
    obtain ⟨wo, rfl⟩ : ∃ wo : World, wo = wr := ⟨_, rfl⟩
    have hR4 := hR2.keeps hkp (fun b hb h => by omega)
    by_cases hlt : k < P.length
    · have d13 := hR4.cell k hlt
      have d3 := hrow.cell k hlt
      obtain ⟨gk, ck, hVk⟩ := hpos k hlt
      have hV' : V k = .slice (some ⟨gk, 0, none⟩) ((fun i => if i < k then mRow P S i else zeroL P.length) k).length ck := by simpa using hVk
      have hset := hrow.setRow hlt hV' k 1
      have hrk := hrow.row k hlt
      rw [if_neg (by omega), hVk] at hrk
      have hrk' : OwnI wo (w.heap.size + 1) (.slice (some ⟨gk, 0, none⟩) (zeroL P.length).length ck) (zeroL P.length) := by simpa using hrk
      have cz := hrk'.cell k (by simpa using hlt)
      rw [gI_zeroL] at cz
      have fz := hrk'.free k
      have hgk := hub k hlt gk (by rw [hVk]; rfl)
      have hkp2 := hkp.setCell (p := ⟨gk, k, none⟩) hgk (.int .i64 1)
      have hrowp := (hR4.row k hlt).rd
      have hkl : (k : Int) < (P.length : Int) := by omega
      have hplen := prox_row_len P S k
      rw [hVk] at d3
      obtain ⟨ar, kr, hV2, hr1, hr2, hrr⟩ := hrowp
      have hbnd : ∀ m, m < (proxOf P S k).length → 0 ≤ gI (proxOf P S k) m ∧ gI (proxOf P S k) m < (k : Int) := prox_bnd HC.out hlt
      have hin : Rows 2 (wo.setCell ⟨gk, k, none⟩ (.int .i64 1)) (w.heap.size + 1) g P.length V (upd (fun i => if i < k then mRow P S i else zeroL P.length) k (ivTo P S k 0 0)) := by
        refine hset.congr (fun i _ => ?_)
        unfold upd
        split
        · rw [if_neg (by omega), ivTo_zero hlt]
        · rfl
      rw [hV2] at d13
      clear hset hrk hrk' hV' hR4
      have HI := Lib.hid hin
      clear hin
      go_wp2_with fail
      go_loopw [7, 8, 29, 34] (fun _ _ i _ wr => ∃ m : Nat, m ≤ (proxOf P S k).length ∧ i = .int .i64 m ∧ Rows 2 wr (w.heap.size + 1) g P.length V (upd (fun i => if i < k then mRow P S i else zeroL P.length) k (ivTo P S k m 0)) ∧ Keeps (fun b => w.heap.size + 1 ≤ b ∧ b < w1.heap.size) w2 wr) (fun _ _ i _ _ => (proxOf P S k).length - (intOf i).toNat)
      case atStart => exact ⟨0, Nat.zero_le _, rfl, HI.out, hkp2⟩
      case round =>
        obtain ⟨m, hm, rfl, hrow3, hkp3⟩ := hrel
        clear HI hkp2 cz fz d13 d3
        obtain ⟨wq, rfl⟩ : ∃ wq : World, wq = wr := ⟨_, rfl⟩
        by_cases hmt : m < (proxOf P S k).length
        · have hR5 := hR2.keeps hkp3 (fun b hb h => by omega)
          obtain ⟨gp, cp, hV3, hgp0, hgp1, _, _⟩ := hR2.pos hlt (by omega)
          rw [hV2] at hV3
          injection hV3 with hV4 hV5 hV6
          subst hV4 hV6
          clear hV5
          have hrow5 := hR5.row k hlt
          rw [hV2] at hrow5
          have hc2 := Own.cell hrow5 m hmt
          have hxr := hbnd m hmt
          clear hR5 hrow5 hrr
          generalize hxx : gI (proxOf P S k) m = x at hc2 hxr
          obtain ⟨hx0, hx1'⟩ := hxr
          have hxk : x.toNat < k := by omega
          have hxP : x.toNat < P.length := by omega
          obtain ⟨gj, cj, hVj⟩ := hpos x.toNat hxP
          have hjk : gj ≠ gk := fun e => hap x.toNat k hxP hlt (by omega) gj (by rw [hVj]; rfl) (by rw [hVk, e]; rfl)
          go_wp2_with fail
          go_loopw [8, 34] (fun _ i wr => ∃ c : Nat, c ≤ k ∧ i = .int .i64 c ∧ Rows 2 wr (w.heap.size + 1) g P.length V (upd (fun i => if i < k then mRow P S i else zeroL P.length) k (ivTo P S k m c)) ∧ Keeps (fun b => w.heap.size + 1 ≤ b ∧ b < w1.heap.size) w2 wr) (fun _ i _ => k - (intOf i).toNat)
          case atStart => exact ⟨0, Nat.zero_le _, rfl, hrow3, hkp3⟩
          case round =>
            obtain ⟨c, hcc, rfl, hrow4, hkp4⟩ := hrel
            clear hrow3 hkp3 hc2
            obtain ⟨wt, rfl⟩ : ∃ wt : World, wt = wr := ⟨_, rfl⟩
            by_cases hct : c < k
            · have d3k := hrow4.cell k hlt
              have d3j := hrow4.cell x.toNat hxP
              rw [hVk] at d3k
              rw [hVj] at d3j
              have hV' : V k = .slice (some ⟨gk, 0, none⟩) ((upd (fun i => if i < k then mRow P S i else zeroL P.length) k (ivTo P S k m c)) k).length ck := by rw [upd_at]; simpa using hVk
              have hset := hrow4.setRow hlt hV' c (sumTo (fun x => mI P S (gI (proxOf P S k) x).toNat c) m + mI P S x.toNat c)
              have hrk := hrow4.row k hlt
              rw [upd_at, hVk] at hrk
              have hrk' : OwnI wt (w.heap.size + 1) (.slice (some ⟨gk, 0, none⟩) (ivTo P S k m c).length ck) (ivTo P S k m c) := by simpa using hrk
              have cz := hrk'.cell c (by simp; omega)
              rw [gI_ivTo (by omega), if_pos hct, if_neg (by omega)] at cz
              have fz := hrk'.free c
              have hrj := hrow4.row x.toNat hxP
              rw [upd_ne _ _ (by omega), if_pos hxk, hVj] at hrj
              have hrj' : OwnI wt (w.heap.size + 1) (.slice (some ⟨gj, 0, none⟩) (mRow P S x.toNat).length cj) (mRow P S x.toNat) := by simpa using hrj
              have cj2 := hrj'.cell c (by simp; omega)
              rw [gI_mRow (by omega)] at cj2
              have hkp5 := hkp4.setCell (p := ⟨gk, c, none⟩) hgk (.int .i64 (sumTo (fun x => mI P S (gI (proxOf P S k) x).toNat c) m + mI P S x.toNat c))
              have hin := hset.congr (R' := upd (fun i => if i < k then mRow P S i else zeroL P.length) k (ivTo P S k m (c + 1))) (fun i _ => by
                unfold upd
                split
                · rw [if_pos rfl, ← hxx]; exact ivTo_step hlt hct
                · rfl)
              have HI := Lib.hid hin
              have HK := Lib.hid hkp5
              have b1 := sumTo_bound (f := fun x => mI P S (gI (proxOf P S k) x).toNat c) (n := m) (-1677721500000) 1677721500000 (fun y hy => mI_bd HC.out c (by have := hbnd y (by omega); omega))
              have b2 := mI_bd HC.out c hxP
              have b3 := hplen
              clear hset hrk hrk' hrj hrj' hV' hin hkp5 hrow4 hkp4
              generalize sumTo (fun x => mI P S (gI (proxOf P S k) x).toNat c) m = y at cz b1 HI HK
              generalize mI P S x.toNat c = z at cj2 b2 HI HK
              obtain ⟨q1, q2⟩ := b2
              have q3 : -671088600000000 ≤ y := by omega
              have q4 : y ≤ 671088600000000 := by omega
              clear b1 b3
              have hcP : (c : Int) < (P.length : Int) := by omega
              have hxPi : x < (P.length : Int) := by omega
              go_wp2_with fail
              go_still_tail 16, (by kernel_rfl)
              change wpList _ _ _ _ _ wt.drew
              go_wp2
              go_roundw
              case rel => exact ⟨c + 1, by omega, by go_num, HI.out.below (Below.refl _ _).drew, HK.out.drewN _⟩
              case measure => simp [intOf]; omega
            · have hc' : c = k := by omega
              subst hc'
              have hfin := hrow4.congr (R' := upd (fun i => if i < c then mRow P S i else zeroL P.length) c (ivTo P S c (m + 1) 0)) (fun i _ => by
                unfold upd
                split
                · exact ivTo_next hlt
                · rfl)
              go_wp2
              go_roundw
              case rel => exact ⟨m + 1, by omega, by go_num, hfin, hkp4⟩
              case measure => simp [intOf]; omega
        · have hm' : m = (proxOf P S k).length := by omega
          subst hm'
          have hfin := hrow3.congr (R' := fun i => if i < k + 1 then mRow P S i else zeroL P.length) (fun i hi => by
            unfold upd
            by_cases e : i = k
            · subst e; rw [if_pos rfl, if_pos (by omega)]; exact ivTo_all HC.out hi
            · rw [if_neg e]
              show (if i < k then mRow P S i else zeroL P.length) = _
              by_cases e2 : i < k
              · rw [if_pos e2, if_pos (by omega)]
              · rw [if_neg e2, if_neg (by omega)])
          go_wp2
          go_roundw
          case rel => exact ⟨k + 1, by omega, by go_num, hfin, hkp3⟩
          case measure => simp [intOf]; omega
    · go_wp2
      have hk' : k = P.length := by omega
      subst hk'
      go_ret
      exact ⟨_, _, rfl, (hrow.congr (fun i hi => by simp [hi])).base_le (by omega), hx2.below.trans (hkp.below (by omega) (fun k hk => by omega))⟩
end Go.Proofs.YtglghdkjppcedaaGreatDoor

/- Contracts: InverseProximity. -/
namespace Go.Proofs.YtglghdkjppcedaaGreatDoor
open Go.RowKit

/-- The inverse of the proximity matrix. -/
def miL (P S : List Int) : List (List Int) := (List.range P.length).map (mRow P S)
theorem l07Simple_l (p s q : Value) (P S W : List Int) (i : Nat) (w : World) (hp : Rd w p P) (hs : Rd w s S) (hc : CluOk P S W) (hi : i < P.length) :
    Calls Tryz.prog 39 #[.agg #[p, s, q], .int .i64 (i : Int)] w (RetL P.length w (mRow P S i)) :=
  (l07Simple_c p s q P S W i w hp hs hc hi).mono fun e w' h => retL_of h (by simp)

end Go.Proofs.YtglghdkjppcedaaGreatDoor

/- Contracts: impl.weightsOfExcesses: excesses led back to weights. -/
namespace Go.Proofs.YtglghdkjppcedaaGreatDoor
open Go.RowKit

theorem backAt_lin {P S W E : List Int} (hc : CluOk P S W) (hl : E.length = P.length) (hE : ∀ i, i < E.length → -1000 ≤ gI E i ∧ gI E i ≤ 1000) : BackAt P S (linTo P S E P.length) E (P.length - 1) := by
  refine ⟨hl, back_lin hc hl, 1000, num_all hE (by omega) (by omega), ?_⟩
  have h24 := hc.1.2.1
  have := pow3_mono (show P.length - 1 ≤ 23 by omega)
  have e : (3 : Int) ^ 23 = 94143178827 := by decide +kernel
  omega

set_option maxRecDepth 100000 in
set_option maxHeartbeats 4000000 in
theorem weightsOfExcesses_c (v u : Value) (P S W E : List Int) (w : World) (h : RdR w v (proxL P S)) (hu : Rd w u E) (hc : CluOk P S W) (hl : E.length = P.length) (hE : ∀ i, i < E.length → -1000 ≤ gI E i ∧ gI E i ≤ 1000) :
    Calls Tryz.prog 35 #[v, u] w (RetL E.length w (linTo P S E P.length)) := by
  have hback0 := backAt_lin hc hl hE
  have h0 := hc.1.1
  have h24 := hc.1.2.1
  have hp : 0 < E.length := by omega
  have hE24 : E.length ≤ 1000000 := by omega
  have HC := Lib.hid hc
  have HL := Lib.hid hl
  obtain ⟨a, cap, rfl, hcap1, hcap2, hrd⟩ := h
  rw [prox_len] at hcap1 ⊢
  clear hc hl hE
  have hB0 := Lib.hid hback0
  clear hback0
  have hw1 : IntKind.i64.wrap ((P.length : Int) - 1) = (P.length : Int) - 1 := IntWalk.i64_in _ (by omega)
  go_enter Tryz.func35, Tryz.ntmps35
  go_wp2_with fail
  refine (clone_c _ E _ hu hp hE24).mono ?_
  rintro e w1 ⟨g, k, rfl, hown, hb⟩
  obtain ⟨g', gc, hge, hg0, hg1, hg2, hg3⟩ := Own.pos hown hp
  injection hge with hge1 hge2 hge3
  subst hge1 hge3
  have hg1' := hb.size
  clear hge2
  rw [HL.out] at hown ⊢
  go_wp2
  go_loopw [6, 8, 23] (fun jj _ _ wr => ∃ j : Nat, ∃ L, j + 1 ≤ P.length ∧ jj = .int .i64 j ∧ BackAt P S (linTo P S E P.length) L j ∧ OwnI wr w.heap.size (.slice (some ⟨g', 0, none⟩) P.length k) L ∧ Below w.heap.size w wr) (fun jj _ _ _ => (intOf jj).toNat)
  case atStart => exact ⟨P.length - 1, E, by omega, by have : ((P.length - 1 : Nat) : Int) = (P.length : Int) - 1 := by omega
                                                       rw [this], hB0.out, hown, hb⟩
  case round =>
    obtain ⟨j, L, hj, rfl, hback, hown2, hbl⟩ := hrel
    clear hown hb hB0
    obtain ⟨wo, rfl⟩ : ∃ wo : World, wo = wr := ⟨_, rfl⟩
    cases j with
    | zero =>
      go_wp2
      go_ret
      have he : L = linTo P S E P.length := hback.eq
      rw [← he]
      exact ⟨_, _, by rw [HL.out]; rfl, by rw [HL.out]; exact hown2, hbl⟩
    | succ j =>
      have hst := hback.step
      have hsmall := hback.small
      have hlen := hback.len
      have hlt : j + 1 < P.length := by omega
      rw [bStep_row (by omega)] at hst
      have hbnd := prox_bnd HC.out hlt
      have hpl := prox_row_len P S (j + 1)
      generalize hjj : j + 1 = t at hlt hst hbnd hpl
      have htj : t - 1 = j := by omega
      have htp : (0 : Int) < (t : Int) := by omega
      have htpn : 0 < t := by omega
      have ht0 : (0 : Int) ≤ (t : Int) := by omega
      have htn : (t : Int) < (P.length : Int) := by omega
      obtain ⟨b, off, rfl, hrb, hcs⟩ := hrd (by intro e; have := congrArg List.length e; rw [prox_len, List.length_nil] at this; omega)
      obtain ⟨ur, hur, hru⟩ := hcs t (by rw [prox_len]; exact hlt)
      rw [prox_row hlt] at hru
      have hu' : wo.cell? ⟨b, off + t, none⟩ = some ur := by rw [hbl.cell (p := ⟨b, off + t, none⟩) hrb]; exact hur
      obtain ⟨ar, kr, rfl, hr1, hr2, hrr⟩ := hru
      have HT := Lib.hid hst
      clear hcs hur hst
      go_wp2_with fail
      go_loopw [8, 23] (fun _ i wr => ∃ m : Nat, m ≤ (proxOf P S t).length ∧ i = .int .i64 m ∧ OwnI wr w.heap.size (.slice (some ⟨g', 0, none⟩) P.length k) (incTo (proxOf P S t) (gI L t) L m) ∧ Below w.heap.size w wr) (fun _ i _ => (proxOf P S t).length - (intOf i).toNat)
      case atStart => exact ⟨0, Nat.zero_le _, rfl, hown2, hbl⟩
      case round =>
        obtain ⟨m, hm, rfl, hown3, hbl3⟩ := hrel
        clear hown2 hbl hu'
        obtain ⟨wq, rfl⟩ : ∃ wq : World, wq = wr := ⟨_, rfl⟩
        by_cases hmt : m < (proxOf P S t).length
        · obtain ⟨b2, off2, rfl, hb2, hcs2⟩ := hrr (ne_of_lt_len hmt)
          have hc2 : wq.cell? ⟨b2, off2 + m, none⟩ = some (.int .i64 (gI (proxOf P S t) m)) := by rw [hbl3.cell (p := ⟨b2, off2 + m, none⟩) hb2]; exact hcs2 m hmt
          have hxr := hbnd m hmt
          have hil : (incTo (proxOf P S t) (gI L t) L m).length = P.length := by rw [incTo_len, hlen]
          have hO : OwnI wq w.heap.size (.slice (some ⟨g', 0, none⟩) (incTo (proxOf P S t) (gI L t) L m).length k) (incTo (proxOf P S t) (gI L t) L m) := by rw [hil]; exact hown3
          have hcell := hO.cell (gI (proxOf P S t) m).toNat (by rw [hil]; omega)
          have hcellj := hO.cell t (by rw [hil]; exact hlt)
          rw [incTo_other (fun i hi => by have := hbnd i (by omega); omega)] at hcellj
          have hfree := hO.free (gI (proxOf P S t) m).toNat
          have bx := hsmall t
          have bY := incTo_bd (row := proxOf P S t) (X := 1000000000000000) (A := 1000000000000000) bx (by omega) hsmall (m := m) (by omega) (gI (proxOf P S t) m).toNat
          have hset := hO.set (gI (proxOf P S t) m).toNat (gI (incTo (proxOf P S t) (gI L t) L m) (gI (proxOf P S t) m).toNat + gI L t)
          have HS : Hid (OwnI (wq.setCell ⟨g', (gI (proxOf P S t) m).toNat, none⟩ (.int .i64 (gI (incTo (proxOf P S t) (gI L t) L m) (gI (proxOf P S t) m).toNat + gI L t))) w.heap.size (.slice (some ⟨g', 0, none⟩) P.length k) (incTo (proxOf P S t) (gI L t) L (m + 1))) := Lib.hid (by
            rw [hil] at hset; exact hset)
          have HB := Lib.hid (hbl3.setCell (p := ⟨g', (gI (proxOf P S t) m).toNat, none⟩) hg0 (.int .i64 (gI (incTo (proxOf P S t) (gI L t) L m) (gI (proxOf P S t) m).toNat + gI L t)))
          have hxn : gI (proxOf P S t) m < (P.length : Int) := by omega
          clear hset hO hown3 hbl3 hil hcs2 hrr
          generalize gI (incTo (proxOf P S t) (gI L t) L m) (gI (proxOf P S t) m).toNat = y at hcell bY HS HB
          generalize gI (proxOf P S t) m = x at hc2 hxr hcell hfree HS HB hxn
          generalize gI L t = z at hcellj bx HS HB
          obtain ⟨hx0, hx1⟩ := hxr
          obtain ⟨q1, q2⟩ := bx
          obtain ⟨q3, q4⟩ := bY
          clear hsmall hback
          go_wp2_with fail
          go_still_tail 10, (by kernel_rfl)
          change wpList _ _ _ _ _ wq.drew
          go_wp2
          go_roundw
          case rel => exact ⟨m + 1, by omega, by go_num, HS.out, HB.out.drew⟩
          case measure => simp [intOf]; omega
        · have hm' : m = (proxOf P S t).length := by omega
          subst hm'
          go_wp2
          go_roundw
          case rel => exact ⟨j, _, by omega, by go_num, HT.out, hown3, hbl3⟩
          case measure => simp [intOf]; omega
end Go.Proofs.YtglghdkjppcedaaGreatDoor
