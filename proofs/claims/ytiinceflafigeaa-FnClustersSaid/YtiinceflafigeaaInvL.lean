/- Contracts: impl.inverseProximity. -/
import Derived.Test.YtiinceflafigeaaPMatL
import Derived.StillTailTactics
import Derived.Test.YtiinceflafigeaaSimS
import Derived.Test.YtiinceflafigeaaWith
namespace Go.Proofs.Ytiinceflafigeaa
open Go.RowKit

theorem prox_row_len (P S : List Int) (k : Nat) : (proxOf P S k).length ≤ 2 := by
  unfold proxOf
  split
  · simp
  · have := secL_len S k; simp; omega
theorem prox_bnd {P S W : List Int} (hc : CluOk P S W) {k : Nat} (hk : k < P.length) : ∀ m, m < (proxOf P S k).length → 0 ≤ gI (proxOf P S k) m ∧ gI (proxOf P S k) m < (k : Int) := by
  have ha := addOk_clu hc (own := fun _ => 0) (fun _ _ => by omega)
  intro m hm
  have := ha.row k (by rw [prox_len]; exact hk) m (by rw [prox_row hk]; exact hm)
  rwa [prox_row hk] at this
/-- The row k while it is summed up: m rows are added, and a further one before the place c. -/
def ivTo (P S : List Int) (k m c : Nat) : List Int := (List.range P.length).map fun j => if j < k then sumTo (fun x => mI P S (gI (proxOf P S k) x).toNat j) (if j < c then m + 1 else m) else if j = k then 1 else 0
@[simp] theorem ivTo_len (P S : List Int) (k m c : Nat) : (ivTo P S k m c).length = P.length := by simp [ivTo]
theorem gI_ivTo {P S : List Int} {k m c j : Nat} (h : j < P.length) : gI (ivTo P S k m c) j = if j < k then sumTo (fun x => mI P S (gI (proxOf P S k) x).toNat j) (if j < c then m + 1 else m) else if j = k then 1 else 0 := by rw [gI_lt (by simpa using h)]; simp [ivTo]
theorem ivTo_zero {P S : List Int} {k : Nat} (hk : k < P.length) : (zeroL P.length).set k 1 = ivTo P S k 0 0 := by
  apply gI_ext (by simp)
  intro j hj
  have hj' : j < P.length := by simpa using hj
  rw [gI_ivTo hj', gI_set, zeroL_len, gI_zeroL, if_neg (show ¬ j < 0 by omega), sumTo_zero]
  by_cases e : j = k
  · subst e; rw [if_pos ⟨rfl, hk⟩, if_neg (by omega), if_pos rfl]
  · rw [if_neg (fun h => e h.1.symm), if_neg e]; split <;> rfl
theorem ivTo_step {P S : List Int} {k m c : Nat} (_ : k < P.length) (hc : c < k) : (ivTo P S k m c).set c (sumTo (fun x => mI P S (gI (proxOf P S k) x).toNat c) m + mI P S (gI (proxOf P S k) m).toNat c) = ivTo P S k m (c + 1) := by
  apply gI_ext (by simp)
  intro j hj
  have hj' : j < P.length := by simpa using hj
  rw [gI_set, gI_ivTo hj', gI_ivTo hj', ivTo_len]
  by_cases e : c = j
  · subst e; rw [if_pos ⟨rfl, hj'⟩, if_pos hc, if_pos (by omega), sumTo_succ]
  · rw [if_neg (fun h => e h.1)]
    by_cases e2 : j < c
    · rw [if_pos e2, if_pos (show j < c + 1 by omega)]
    · rw [if_neg e2, if_neg (show ¬ j < c + 1 by omega)]
theorem ivTo_next {P S : List Int} {k m : Nat} (_ : k < P.length) : ivTo P S k m k = ivTo P S k (m + 1) 0 := by
  apply gI_ext (by simp)
  intro j hj
  have hj' : j < P.length := by simpa using hj
  rw [gI_ivTo hj', gI_ivTo hj', if_neg (show ¬ j < 0 by omega)]
  by_cases e : j < k
  · simp only [if_pos e]
  · simp only [if_neg e]
theorem ivTo_all {P S W : List Int} (hc : CluOk P S W) {k : Nat} (hk : k < P.length) : ivTo P S k (proxOf P S k).length 0 = mRow P S k := by
  apply gI_ext (by simp)
  intro j hj
  have hj' : j < P.length := by simpa using hj
  rw [gI_ivTo hj', gI_mRow hj', if_neg (show ¬ j < 0 by omega)]
  by_cases e : j < k
  · rw [if_pos e, mI_step hc j hk (by omega), if_neg (show ¬ k = j by omega)]
    have e2 : proxOf P S k = secL S k ++ [gI P k] := by unfold proxOf; rw [if_neg (by omega)]
    rw [e2]
    by_cases hs : 0 ≤ gI S k
    · rw [secL_yes hs, if_pos hs]; simp [sumTo, gI]; omega
    · rw [secL_no hs, if_neg hs]; simp [sumTo, gI]
  · rw [if_neg e]
    by_cases e2 : j = k
    · subst e2; rw [if_pos rfl, mI_self hc hk]
    · rw [if_neg e2, mI_gt hc j k (by omega) hk]

set_option maxRecDepth 100000 in
set_option maxHeartbeats 2000000 in
theorem inverseProximity_c (p s q : Value) (P S W : List Int) (w : World) (hp : Rd w p P) (hs : Rd w s S) (hq : Rd w q W) (hc : CluOk P S W) :
    Calls Try.prog 179 #[.agg #[p, s, q]] w (RetR w P.length (mRow P S)) := by
  have hx := Boxed.start w 40 #[p, s, q]
  obtain ⟨a1, k1, rfl⟩ := hp.len0
  have h0 := hc.1.1
  have h24 := hc.1.2.1
  have hcl1 := Lib.hid (show S.length = P.length from hc.1.2.2.1)
  have HC := Lib.hid hc
  clear hc
  have c0 := hx.cell 0
  go_enter Try.func179, Try.ntmps179
  go_wp2_with fail
  refine (square_c P.length _ h0 (by omega)).mono ?_
  rintro e w1 ⟨g, V, rfl, hR, hb⟩
  have hx1 := hx.trans hb
  have hs1 : w.heap.size + 1 ≤ w1.heap.size := hx1.size
  have hR := hR.base_le (base' := w.heap.size + 1) (Nat.le_of_eq (by simp))
  clear c0
  have c0 := hx1.cell 0
  have c1 := hx1.cell 1
  have c2 := hx1.cell 2
  go_wp2_with fail
  refine (clusterProximates_c _ _ _ P S W _ (hx1.rd hp) (hx1.rd hs) (hx1.rd hq) hcl1.out h0 h24).mono ?_
  rintro e w2 ⟨g2, V2, rfl, hR2, hb2⟩
  have hx2 := hx1.trans hb2
  have hR3 := hR.below hb2
  have hs2 : w1.heap.size ≤ w2.heap.size := hb2.size
  have hlt1 := hR.lt
  have hub : ∀ i, i < P.length → ∀ k, (V i).ownBlock = some k → w.heap.size + 1 ≤ k ∧ k < w1.heap.size := fun i hi k hk => (hR.row i hi).block k hk
  have hpos : ∀ i, i < P.length → ∃ gi cap, V i = .slice (some ⟨gi, 0, none⟩) P.length cap := fun i hi => by
    obtain ⟨gi, cap, e1, _⟩ := hR.pos hi (by simp; omega)
    exact ⟨gi, cap, by simpa using e1⟩
  have hap : ∀ i j, i < P.length → j < P.length → i ≠ j → Apart (V i) (V j) := hR.apart
  clear c0 c1 c2 hR
  go_wp2_with fail
  go_loopw [4, 5, 7, 8, 16, 29, 34] (fun _ _ _ _ i _ _ wr => ∃ k : Nat, k ≤ P.length ∧ i = .int .i64 k ∧ Rows 2 wr (w.heap.size + 1) g P.length V (fun i => if i < k then mRow P S i else zeroL P.length) ∧ Keeps (fun b => w.heap.size + 1 ≤ b ∧ b < w1.heap.size) w2 wr) (fun _ _ _ _ i _ _ _ => P.length - (intOf i).toNat)
  case atStart => exact ⟨0, Nat.zero_le _, rfl, hR3.congr (fun i _ => by simp), Keeps.refl _ _⟩
  case round =>
    obtain ⟨k, hk, rfl, hrow, hkp⟩ := hrel
    clear hR3
    obtain ⟨wo, rfl⟩ : ∃ wo : World, wo = wr := ⟨_, rfl⟩
    have hR4 := hR2.keeps hkp (fun b hb h => by omega)
    by_cases hlt : k < P.length
    · have d13 := hR4.cell k hlt
      have d3 := hrow.cell k hlt
      obtain ⟨gk, ck, hVk⟩ := hpos k hlt
      have hV' : V k = .slice (some ⟨gk, 0, none⟩) ((fun i => if i < k then mRow P S i else zeroL P.length) k).length ck := by simpa using hVk
      have hset := hrow.setRow hlt hV' k 1
      have hrk := hrow.row k hlt
      rw [if_neg (by omega), hVk] at hrk
      have hrk' : OwnI wo (w.heap.size + 1) (.slice (some ⟨gk, 0, none⟩) (zeroL P.length).length ck) (zeroL P.length) := by simpa using hrk
      have cz := hrk'.cell k (by simpa using hlt)
      rw [gI_zeroL] at cz
      have fz := hrk'.free k
      have hgk := hub k hlt gk (by rw [hVk]; rfl)
      have hkp2 := hkp.setCell (p := ⟨gk, k, none⟩) hgk (.int .i64 1)
      have hrowp := (hR4.row k hlt).rd
      have hkl : (k : Int) < (P.length : Int) := by omega
      have hplen := prox_row_len P S k
      rw [hVk] at d3
      obtain ⟨ar, kr, hV2, hr1, hr2, hrr⟩ := hrowp
      have hbnd : ∀ m, m < (proxOf P S k).length → 0 ≤ gI (proxOf P S k) m ∧ gI (proxOf P S k) m < (k : Int) := prox_bnd HC.out hlt
      have hin : Rows 2 (wo.setCell ⟨gk, k, none⟩ (.int .i64 1)) (w.heap.size + 1) g P.length V (upd (fun i => if i < k then mRow P S i else zeroL P.length) k (ivTo P S k 0 0)) := by
        refine hset.congr (fun i _ => ?_)
        unfold upd
        split
        · rw [if_neg (by omega), ivTo_zero hlt]
        · rfl
      rw [hV2] at d13
      clear hset hrk hrk' hV' hR4
      have HI := Lib.hid hin
      clear hin
      go_wp2_with fail
      go_loopw [7, 8, 29, 34] (fun _ _ i _ wr => ∃ m : Nat, m ≤ (proxOf P S k).length ∧ i = .int .i64 m ∧ Rows 2 wr (w.heap.size + 1) g P.length V (upd (fun i => if i < k then mRow P S i else zeroL P.length) k (ivTo P S k m 0)) ∧ Keeps (fun b => w.heap.size + 1 ≤ b ∧ b < w1.heap.size) w2 wr) (fun _ _ i _ _ => (proxOf P S k).length - (intOf i).toNat)
      case atStart => exact ⟨0, Nat.zero_le _, rfl, HI.out, hkp2⟩
      case round =>
        obtain ⟨m, hm, rfl, hrow3, hkp3⟩ := hrel
        clear HI hkp2 cz fz d13 d3
        obtain ⟨wq, rfl⟩ : ∃ wq : World, wq = wr := ⟨_, rfl⟩
        by_cases hmt : m < (proxOf P S k).length
        · have hR5 := hR2.keeps hkp3 (fun b hb h => by omega)
          obtain ⟨gp, cp, hV3, hgp0, hgp1, _, _⟩ := hR2.pos hlt (by omega)
          rw [hV2] at hV3
          injection hV3 with hV4 hV5 hV6
          subst hV4 hV6
          clear hV5
          have hrow5 := hR5.row k hlt
          rw [hV2] at hrow5
          have hc2 := Own.cell hrow5 m hmt
          have hxr := hbnd m hmt
          clear hR5 hrow5 hrr
          generalize hxx : gI (proxOf P S k) m = x at hc2 hxr
          obtain ⟨hx0, hx1'⟩ := hxr
          have hxk : x.toNat < k := by omega
          have hxP : x.toNat < P.length := by omega
          obtain ⟨gj, cj, hVj⟩ := hpos x.toNat hxP
          have hjk : gj ≠ gk := fun e => hap x.toNat k hxP hlt (by omega) gj (by rw [hVj]; rfl) (by rw [hVk, e]; rfl)
          go_wp2_with fail
          go_loopw [8, 34] (fun _ i wr => ∃ c : Nat, c ≤ k ∧ i = .int .i64 c ∧ Rows 2 wr (w.heap.size + 1) g P.length V (upd (fun i => if i < k then mRow P S i else zeroL P.length) k (ivTo P S k m c)) ∧ Keeps (fun b => w.heap.size + 1 ≤ b ∧ b < w1.heap.size) w2 wr) (fun _ i _ => k - (intOf i).toNat)
          case atStart => exact ⟨0, Nat.zero_le _, rfl, hrow3, hkp3⟩
          case round =>
            obtain ⟨c, hcc, rfl, hrow4, hkp4⟩ := hrel
            clear hrow3 hkp3 hc2
            obtain ⟨wt, rfl⟩ : ∃ wt : World, wt = wr := ⟨_, rfl⟩
            by_cases hct : c < k
            · have d3k := hrow4.cell k hlt
              have d3j := hrow4.cell x.toNat hxP
              rw [hVk] at d3k
              rw [hVj] at d3j
              have hV' : V k = .slice (some ⟨gk, 0, none⟩) ((upd (fun i => if i < k then mRow P S i else zeroL P.length) k (ivTo P S k m c)) k).length ck := by rw [upd_at]; simpa using hVk
              have hset := hrow4.setRow hlt hV' c (sumTo (fun x => mI P S (gI (proxOf P S k) x).toNat c) m + mI P S x.toNat c)
              have hrk := hrow4.row k hlt
              rw [upd_at, hVk] at hrk
              have hrk' : OwnI wt (w.heap.size + 1) (.slice (some ⟨gk, 0, none⟩) (ivTo P S k m c).length ck) (ivTo P S k m c) := by simpa using hrk
              have cz := hrk'.cell c (by simp; omega)
              rw [gI_ivTo (by omega), if_pos hct, if_neg (by omega)] at cz
              have fz := hrk'.free c
              have hrj := hrow4.row x.toNat hxP
              rw [upd_ne _ _ (by omega), if_pos hxk, hVj] at hrj
              have hrj' : OwnI wt (w.heap.size + 1) (.slice (some ⟨gj, 0, none⟩) (mRow P S x.toNat).length cj) (mRow P S x.toNat) := by simpa using hrj
              have cj2 := hrj'.cell c (by simp; omega)
              rw [gI_mRow (by omega)] at cj2
              have hkp5 := hkp4.setCell (p := ⟨gk, c, none⟩) hgk (.int .i64 (sumTo (fun x => mI P S (gI (proxOf P S k) x).toNat c) m + mI P S x.toNat c))
              have hin := hset.congr (R' := upd (fun i => if i < k then mRow P S i else zeroL P.length) k (ivTo P S k m (c + 1))) (fun i _ => by
                unfold upd
                split
                · rw [if_pos rfl, ← hxx]; exact ivTo_step hlt hct
                · rfl)
              have HI := Lib.hid hin
              have HK := Lib.hid hkp5
              have b1 := sumTo_bound (f := fun x => mI P S (gI (proxOf P S k) x).toNat c) (n := m) (-1677721500000) 1677721500000 (fun y hy => mI_bd HC.out c (by have := hbnd y (by omega); omega))
              have b2 := mI_bd HC.out c hxP
              have b3 := hplen
              clear hset hrk hrk' hrj hrj' hV' hin hkp5 hrow4 hkp4
              generalize sumTo (fun x => mI P S (gI (proxOf P S k) x).toNat c) m = y at cz b1 HI HK
              generalize mI P S x.toNat c = z at cj2 b2 HI HK
              obtain ⟨q1, q2⟩ := b2
              have q3 : -671088600000000 ≤ y := by omega
              have q4 : y ≤ 671088600000000 := by omega
              clear b1 b3
              have hcP : (c : Int) < (P.length : Int) := by omega
              have hxPi : x < (P.length : Int) := by omega
              go_wp2_with fail
              go_still_tail 16, (by kernel_rfl)
              change wpList _ _ _ _ _ wt.drew
              go_wp2
              go_roundw
              case rel => exact ⟨c + 1, by omega, by go_num, HI.out.below (Below.refl _ _).drew, HK.out.drewN _⟩
              case measure => simp [intOf]; omega
            · have hc' : c = k := by omega
              subst hc'
              have hfin := hrow4.congr (R' := upd (fun i => if i < c then mRow P S i else zeroL P.length) c (ivTo P S c (m + 1) 0)) (fun i _ => by
                unfold upd
                split
                · exact ivTo_next hlt
                · rfl)
              go_wp2
              go_roundw
              case rel => exact ⟨m + 1, by omega, by go_num, hfin, hkp4⟩
              case measure => simp [intOf]; omega
        · have hm' : m = (proxOf P S k).length := by omega
          subst hm'
          have hfin := hrow3.congr (R' := fun i => if i < k + 1 then mRow P S i else zeroL P.length) (fun i hi => by
            unfold upd
            by_cases e : i = k
            · subst e; rw [if_pos rfl, if_pos (by omega)]; exact ivTo_all HC.out hi
            · rw [if_neg e]
              show (if i < k then mRow P S i else zeroL P.length) = _
              by_cases e2 : i < k
              · rw [if_pos e2, if_pos (by omega)]
              · rw [if_neg e2, if_neg (by omega)])
          go_wp2
          go_roundw
          case rel => exact ⟨k + 1, by omega, by go_num, hfin, hkp3⟩
          case measure => simp [intOf]; omega
    · go_wp2
      have hk' : k = P.length := by omega
      subst hk'
      go_ret
      exact ⟨_, _, rfl, (hrow.congr (fun i hi => by simp [hi])).base_le (by omega), hx2.below.trans (hkp.below (by omega) (fun k hk => by omega))⟩
end Go.Proofs.Ytiinceflafigeaa

/- Contracts: InverseProximity. -/
namespace Go.Proofs.Ytiinceflafigeaa
open Go.RowKit

/-- The inverse of the proximity matrix. -/
def miL (P S : List Int) : List (List Int) := (List.range P.length).map (mRow P S)
theorem miL_len (P S : List Int) : (miL P S).length = P.length := by simp [miL]
theorem miL_row {P S : List Int} {j : Nat} (h : j < (miL P S).length) : (gR (miL P S) j).length = P.length := by rw [miL_len] at h; unfold miL; rw [gR_map h, mRow_len]
theorem inverseProximity_m (p s q : Value) (P S W : List Int) (w : World) (hp : Rd w p P) (hs : Rd w s S) (hq : Rd w q W) (hc : CluOk P S W) :
    Calls Try.prog 179 #[.agg #[p, s, q]] w (RetM 2 w (miL P S)) :=
  (inverseProximity_c p s q P S W w hp hs hq hc).mono fun e w' h => retM_of_rows (by have := hc.1; omega) h
theorem l07Simple_l (p s q : Value) (P S W : List Int) (i : Nat) (w : World) (hp : Rd w p P) (hs : Rd w s S) (hc : CluOk P S W) (hi : i < P.length) :
    Calls Try.prog 180 #[.agg #[p, s, q], .int .i64 (i : Int)] w (RetL P.length w (mRow P S i)) :=
  (l07Simple_c p s q P S W i w hp hs hc hi).mono fun e w' h => retL_of h (by simp)

set_option maxHeartbeats 1000000 in
theorem implInverse_yes (p s q : Value) (P S W : List Int) (w : World) (hp : Rd w p P) (hs : Rd w s S) (hq : Rd w q W) (hc : cluB P S W = true) :
    Calls Try.prog 73 #[.agg #[p, s, q]] w (RetMC 2 w (miL P S) 0) := by
  have hx := Boxed.start w 40 #[p, s, q]
  have hcl := cluB_iff.1 hc
  obtain ⟨a1, k1, rfl⟩ := hp.len0
  obtain ⟨a2, k2, rfl⟩ := hs.len0
  obtain ⟨a3, k3, rfl⟩ := hq.len0
  have HC := Lib.hid hcl
  clear hcl
  go_enter Try.func73, Try.ntmps73
  go_wp2_with fail
  refine (implIsCluster_c _ _ _ P S W _ (hx.rd hp) (hx.rd hs) (hx.rd hq)).mono ?_
  rintro e w1 ⟨rfl, hb⟩
  have hx1 := hx.trans hb
  have c0 := hx1.cell 0
  have c1 := hx1.cell 1
  have c2 := hx1.cell 2
  go_wp2_with fail
  refine (inverseProximity_m _ _ _ P S W _ (hx1.rd hp) (hx1.rd hs) (hx1.rd hq) HC.out).mono ?_
  rintro e w2 ⟨a, k, V, rfl, ho, hb2⟩
  go_wp2
  go_ret2
  exact retMC_mk (ho.base_le (Nat.le_of_lt hx1.size)) (hx1.trans hb2).below

theorem implInverse_no (p s q : Value) (P S W : List Int) (w : World) (hp : Rd w p P) (hs : Rd w s S) (hq : Rd w q W) (hc : cluB P S W = false) :
    Calls Try.prog 73 #[.agg #[p, s, q]] w (RetMC 2 w [] 1) := by
  have hx := Boxed.start w 40 #[p, s, q]
  obtain ⟨a1, k1, rfl⟩ := hp.len0
  obtain ⟨a2, k2, rfl⟩ := hs.len0
  obtain ⟨a3, k3, rfl⟩ := hq.len0
  go_enter Try.func73, Try.ntmps73
  go_wp2_with fail
  refine (implIsCluster_c _ _ _ P S W _ (hx.rd hp) (hx.rd hs) (hx.rd hq)).mono ?_
  rintro e w1 ⟨rfl, hb⟩
  go_wp2
  go_ret2
  exact retMC_nil (hx.trans hb).below

theorem implInverse_c (p s q : Value) (P S W : List Int) (w : World) (hp : Rd w p P) (hs : Rd w s S) (hq : Rd w q W) :
    Calls Try.prog 73 #[.agg #[p, s, q]] w (RetMC 2 w (okR (cluB P S W) (miL P S)) (okC (cluB P S W) 1)) := by
  cases hc : cluB P S W
  · rw [okR_false rfl, okC_false rfl]; exact implInverse_no p s q P S W w hp hs hq hc
  · rw [okR_true rfl, okC_true rfl]; exact implInverse_yes p s q P S W w hp hs hq hc

set_option maxHeartbeats 1000000 in
theorem specInverse_yes (p s q : Value) (P S W : List Int) (w : World) (hp : Rd w p P) (hs : Rd w s S) (hq : Rd w q W) (hc : cluB P S W = true) :
    Calls Try.prog 74 #[.agg #[p, s, q]] w (RetMC 2 w (miL P S) 0) := by
  obtain ⟨j0, ji, jz0, jz1, jz2⟩ := info_parts Try.infoII
  have hx := Boxed.start w 40 #[p, s, q]
  have hcl := cluB_iff.1 hc
  obtain ⟨a1, k1, rfl⟩ := hp.len0
  obtain ⟨a2, k2, rfl⟩ := hs.len0
  obtain ⟨a3, k3, rfl⟩ := hq.len0
  have HC := Lib.hid hcl
  clear hcl
  go_enter Try.func74, Try.ntmps74
  go_wp2_with fail
  refine (l07Is_c _ _ _ P S W _ (hx.rd hp) (hx.rd hs) (hx.rd hq)).mono ?_
  rintro e w1 ⟨rfl, hb⟩
  have hx1 := hx.trans hb
  have c0 := hx1.cell 0
  have c1 := hx1.cell 1
  have c2 := hx1.cell 2
  clear c0 c1 c2
  have h24 := HC.out.1.2.1
  go_wp2
  go_loopw [4, 5] (fun v i wr => ∃ k : Nat, ∃ vs, k ≤ P.length ∧ i = .int .i64 k ∧ GrowM 2 24 wr (w.heap.size + 1) v vs ((List.range k).map (mRow P S)) ∧ Boxed w wr 40 #[.slice a1 P.length k1, .slice a2 S.length k2, .slice a3 W.length k3]) (fun _ i _ => P.length - (intOf i).toNat)
  case atStart => exact ⟨0, _, Nat.zero_le _, rfl, GrowM.empty _ _ w1 _ _ rfl hx1.size, hx1.alloc _⟩
  case round =>
    obtain ⟨k, vs, hk, rfl, hown, hbx⟩ := hrel
    obtain ⟨wo, rfl⟩ : ∃ wo : World, wo = wr := ⟨_, rfl⟩
    have c0 := hbx.cell 0
    have c1 := hbx.cell 1
    have c2 := hbx.cell 2
    by_cases hlt : k < P.length
    · have hki : (k : Int) < (P.length : Int) := by omega
      go_wp2_with fail
      refine (l07Simple_l _ _ _ P S W k _ (hbx.rd hp) (hbx.rd hs) HC.out hlt).mono ?_
      rintro e w2 ⟨a, c, rfl, ho, hb2⟩
      have hblk : ∀ b, OwnM.mine u4 (fun i => vs.getD i (.slice none 0 0)) ((List.range k).map (mRow P S)) b → w.heap.size + 1 ≤ b ∧ b < wo.heap.size := hown.own.block
      have hgr := hown.below hb2
      have hbx2 := hbx.trans hb2
      have hl5 : ((List.range k).map (mRow P S)).length = k := by simp
      have q1 : Apart (.slice a P.length c) u4 := by intro b h1 h2; have := (hblk b (.inl h2)).2; have := (ho.block b h1).1; omega
      have q2 : ∀ i, i < ((List.range k).map (mRow P S)).length → Apart (vs.getD i (.slice none 0 0)) (.slice a P.length c) := by intro i hi b h1 h2; have := (hblk b (.inr ⟨i, hi, h1⟩)).2; have := (ho.block b h2).1; omega
      have q3 : ((List.range k).map (mRow P S)).length ≤ 1000000000 := by rw [hl5]; omega
      have hsz := hbx2.size
      have q4 : w.heap.size + 1 ≤ w2.heap.size := hsz
      have hsz0 := hbx.size
      have hown5 := ho.base_le (base' := w.heap.size + 1) (by omega)
      have HY := Lib.hid (show (List.range k).map (mRow P S) ++ [mRow P S k] = (List.range (k + 1)).map (mRow P S) by rw [List.range_succ, List.map_append]; rfl)
      have HL5 := Lib.hid hl5
      clear hl5 c0 c1 c2 hown hbx
      go_wp2_with (at_builtin; refine wpList_pushR rfl (.tmp 17) (.tmp 21) 64 rfl (w.heap.size + 1) 2 24 j0 Try.underlying64 ji jz0 jz1 jz2 u4 vs ((List.range k).map (mRow P S)) (.slice a P.length c) (mRow P S k) rfl hgr _ (by simp) rfl hown5 q1 q2 q3 q4 ?_; intro g5 cap5 w5 hgr5 hk5 hg5)
      have hbx5 := hbx2.wrote (hk5.mono (fun b hb => (hblk b (.inl hb)).1))
      rw [HY.out, HL5.out] at hgr5
      go_roundw
      case rel => exact ⟨k + 1, _, by omega, by go_num, hgr5, hbx5⟩
      case measure => simp [intOf]; omega
    · go_wp2
      have hk' : k = P.length := by omega
      subst hk'
      go_ret2
      exact retMC_mk (R := miL P S) (hown.own.base_le (by omega)) hbx.below

theorem specInverse_no (p s q : Value) (P S W : List Int) (w : World) (hp : Rd w p P) (hs : Rd w s S) (hq : Rd w q W) (hc : cluB P S W = false) :
    Calls Try.prog 74 #[.agg #[p, s, q]] w (RetMC 2 w [] 1) := by
  have hx := Boxed.start w 40 #[p, s, q]
  obtain ⟨a1, k1, rfl⟩ := hp.len0
  obtain ⟨a2, k2, rfl⟩ := hs.len0
  obtain ⟨a3, k3, rfl⟩ := hq.len0
  go_enter Try.func74, Try.ntmps74
  go_wp2_with fail
  refine (l07Is_c _ _ _ P S W _ (hx.rd hp) (hx.rd hs) (hx.rd hq)).mono ?_
  rintro e w1 ⟨rfl, hb⟩
  go_wp2
  go_ret2
  exact retMC_nil (hx.trans hb).below

theorem specInverse_c (p s q : Value) (P S W : List Int) (w : World) (hp : Rd w p P) (hs : Rd w s S) (hq : Rd w q W) :
    Calls Try.prog 74 #[.agg #[p, s, q]] w (RetMC 2 w (okR (cluB P S W) (miL P S)) (okC (cluB P S W) 1)) := by
  cases hc : cluB P S W
  · rw [okR_false rfl, okC_false rfl]; exact specInverse_no p s q P S W w hp hs hq hc
  · rw [okR_true rfl, okC_true rfl]; exact specInverse_yes p s q P S W w hp hs hq hc

end Go.Proofs.Ytiinceflafigeaa
