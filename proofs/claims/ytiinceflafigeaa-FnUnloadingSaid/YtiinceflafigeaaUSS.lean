/- Contracts: slices.IndexFunc for a negative number, slices.Index, slices.Contains. -/
import Derived.Test.YtiinceflafigeaaUnlBd
import Derived.Test.YtiinceflafigeaaLib
import Derived.Test.YtiinceflafigeaaUC
import Derived.Test.YtiinceflafigeaaCons
import Derived.Deep.RegionHeld3
namespace Go.Proofs.Ytiinceflafigeaa
open Go.RowKit

theorem isNeg_c (n : Int) (w : World) : Calls Try.prog 171 #[.int .i64 n] w fun e w' => e = .returned (.bool (decide (n < 0))) ∧ w = w' := by
  go_enter Try.func171, Try.ntmps171
  go_wp2
  go_ret
  exact ⟨rfl, rfl⟩

set_option maxHeartbeats 1000000 in
theorem indexNeg_c (v : Value) (xs : List Int) (w : World) (h : Rd w v xs) (_ : xs.length ≤ 1000000) :
    Calls Try.prog 169 #[v, .func (.func 171) #[] #[]] w fun e w' => e = .returned (.int .i64 (leastTo xs xs.length)) ∧ w = w' := by
  obtain ⟨a, cap, rfl, h1, h2, hrd⟩ := h
  go_enter Try.func169, Try.ntmps169
  go_wp2
  go_loop [5, 8] (fun _ i => ∃ j : Nat, j ≤ xs.length ∧ i = .int .i64 j ∧ ∀ t, t < j → 0 ≤ gI xs t) (fun _ i => xs.length - (intOf i).toNat)
  case atStart => exact ⟨0, Nat.zero_le _, rfl, fun t ht => absurd ht (by omega)⟩
  case round =>
    obtain ⟨j, hj, rfl, hg⟩ := hrel
    by_cases hlt : j < xs.length
    · obtain ⟨b, off, rfl, hb, hcs⟩ := hrd (ne_of_lt_len hlt)
      have hc := hcs j hlt
      have HR := Lib.hid (@leastTo_at xs j xs.length hlt)
      have hji : (j : Int) < (xs.length : Int) := by omega
      by_cases hneg : gI xs j < 0
      · have HF := Lib.hid (HR.out hneg hg)
        have hd : decide (gI xs j < 0) = true := by simp [hneg]
        clear hg hcs hrd HR
        generalize gI xs j = x at hc hneg hd
        go_wp2_with fail
        refine (isNeg_c x _).mono ?_
        rintro e w1 ⟨rfl, rfl⟩
        rw [hd]
        go_wp2
        go_ret
        exact ⟨ret_int HF.out.symm, rfl⟩
      · have HF : Hid (∀ t, t < j + 1 → 0 ≤ gI xs t) := Lib.hid (fun t ht => by
          by_cases e : t = j
          · subst e; omega
          · exact hg t (by omega))
        have hd : decide (gI xs j < 0) = false := by simp; omega
        clear hg hcs hrd HR
        generalize gI xs j = x at hc hneg hd
        go_wp2_with fail
        refine (isNeg_c x _).mono ?_
        rintro e w1 ⟨rfl, rfl⟩
        rw [hd]
        go_wp2
        go_round
        case rel => exact ⟨j + 1, by omega, by go_num, HF.out⟩
        case measure => simp [intOf]; omega
    · have hj' : j = xs.length := by omega
      subst hj'
      have HF := Lib.hid (leastTo_none hg)
      clear hg
      go_wp2
      go_ret
      exact ⟨ret_int HF.out.symm, rfl⟩

/-- The first place before k at which x stands, or -1. -/
def idxTo (xs : List Int) (x : Int) : Nat → Int
  | 0 => -1
  | k + 1 => if 0 ≤ idxTo xs x k then idxTo xs x k else if gI xs k = x then k else -1
theorem idxTo_none {xs : List Int} {x : Int} {k : Nat} : (∀ i, i < k → gI xs i ≠ x) → idxTo xs x k = -1 := by
  induction k with
  | zero => intro _; rfl
  | succ k ih => intro h; unfold idxTo; rw [ih (fun i hi => h i (by omega)), if_neg (by omega), if_neg (h k (by omega))]
theorem idxTo_at {xs : List Int} {x : Int} {j k : Nat} (hj : j < k) (h1 : gI xs j = x) (h2 : ∀ i, i < j → gI xs i ≠ x) : idxTo xs x k = j := by
  induction k with
  | zero => omega
  | succ k ih =>
    unfold idxTo
    by_cases e : j = k
    · subst e; rw [idxTo_none h2, if_neg (by omega), if_pos h1]
    · rw [ih (by omega), if_pos (by omega)]

set_option maxHeartbeats 1000000 in
theorem slicesIndex_c (v : Value) (xs : List Int) (x : Int) (w : World) (h : Rd w v xs) (_ : xs.length ≤ 1000000) :
    Calls Try.prog 217 #[v, .int .i64 x] w fun e w' => e = .returned (.int .i64 (idxTo xs x xs.length)) ∧ w = w' := by
  obtain ⟨a, cap, rfl, h1, h2, hrd⟩ := h
  go_enter Try.func217, Try.ntmps217
  go_wp2
  go_loop [5, 8] (fun _ i => ∃ j : Nat, j ≤ xs.length ∧ i = .int .i64 j ∧ ∀ t, t < j → gI xs t ≠ x) (fun _ i => xs.length - (intOf i).toNat)
  case atStart => exact ⟨0, Nat.zero_le _, rfl, fun t ht => absurd ht (by omega)⟩
  case round =>
    obtain ⟨j, hj, rfl, hg⟩ := hrel
    by_cases hlt : j < xs.length
    · obtain ⟨b, off, rfl, hb, hcs⟩ := hrd (ne_of_lt_len hlt)
      have hc := hcs j hlt
      have HR := Lib.hid (@idxTo_at xs x j xs.length hlt)
      have hji : (j : Int) < (xs.length : Int) := by omega
      by_cases he : gI xs j = x
      · have HF := Lib.hid (HR.out he hg)
        rw [he] at hc
        have hbt : (x == x) = true := by simp
        clear hg hcs hrd HR he
        go_wp2
        go_ret
        exact ⟨ret_int HF.out.symm, rfl⟩
      · have HF : Hid (∀ t, t < j + 1 → gI xs t ≠ x) := Lib.hid (fun t ht => by
          by_cases e : t = j
          · subst e; exact he
          · exact hg t (by omega))
        have hbf : (x == gI xs j) = false := beq_false_of_ne (fun e => he e.symm)
        clear hg hcs hrd HR
        generalize gI xs j = y at hc hbf he
        go_wp2
        go_round
        case rel => exact ⟨j + 1, by omega, by go_num, HF.out⟩
        case measure => simp [intOf]; omega
    · have hj' : j = xs.length := by omega
      subst hj'
      have HF := Lib.hid (idxTo_none hg)
      clear hg
      go_wp2
      go_ret
      exact ⟨ret_int HF.out.symm, rfl⟩

theorem contains_c (v : Value) (xs : List Int) (x : Int) (w : World) (h : Rd w v xs) (hn : xs.length ≤ 1000000) :
    Calls Try.prog 173 #[v, .int .i64 x] w fun e w' => e = .returned (.bool (decide (0 ≤ idxTo xs x xs.length))) ∧ w = w' := by
  obtain ⟨a, cap, rfl⟩ := h.len0
  go_enter Try.func173, Try.ntmps173
  go_wp2_with fail
  refine (slicesIndex_c _ xs x _ h hn).mono ?_
  rintro e w1 ⟨rfl, rfl⟩
  go_wp2
  go_ret
  exact ⟨ret_bool (by first | rfl | simp), rfl⟩
end Go.Proofs.Ytiinceflafigeaa

/- Contracts: UnloadStep, the program and the reference. -/
namespace Go.Proofs.Ytiinceflafigeaa
open Go.RowKit

theorem idxTo_yes {xs : List Int} {x : Int} : ∀ {k : Nat}, 0 ≤ idxTo xs x k → ∃ i, i < k ∧ gI xs i = x := by
  intro k
  induction k with
  | zero => intro h; simp [idxTo] at h
  | succ k ih =>
    intro h
    by_cases h1 : 0 ≤ idxTo xs x k
    · obtain ⟨i, h2, h3⟩ := ih h1
      exact ⟨i, by omega, h3⟩
    · unfold idxTo at h
      rw [if_neg h1] at h
      by_cases h2 : gI xs k = x
      · exact ⟨k, by omega, h2⟩
      · rw [if_neg h2] at h; omega
theorem idxTo_iff {xs : List Int} {x : Int} : 0 ≤ idxTo xs x xs.length ↔ x ∈ xs := by
  constructor
  · intro h
    obtain ⟨i, h1, h2⟩ := idxTo_yes h
    rw [← h2]; exact gI_mem h1
  · intro h
    apply Int.le_of_not_gt
    intro hlt
    obtain ⟨i, h1, h2⟩ := List.getElem_of_mem h
    have key : ∀ k, i < k → 0 ≤ idxTo xs x k := by
      intro k
      induction k with
      | zero => intro hk; omega
      | succ k ih =>
        intro hk
        unfold idxTo
        by_cases h3 : 0 ≤ idxTo xs x k
        · rw [if_pos h3]; exact h3
        · rw [if_neg h3]
          have : i = k := by
            apply Classical.byContradiction
            intro hne
            exact h3 (ih (by omega))
          subst this
          rw [if_pos (by rw [gI_lt h1, h2])]; omega
    have := key _ h1
    omega
theorem contains_near {P S W : List Int} (hc : CluOk P S W) {j : Nat} (hj : j < P.length) (t : Nat) : decide (0 ≤ idxTo (proxOf P S j) (t : Int) (proxOf P S j).length) = nearB P S j (t : Int) := by
  cases h : nearB P S j (t : Int)
  · rw [decide_eq_false_iff_not, idxTo_iff, prox_mem hc hj, h]; simp
  · rw [decide_eq_true_iff, idxTo_iff, prox_mem hc hj, h]

/-- The weights while the points before k are lowered. -/
def sqTo (P S L : List Int) (p : Nat) (s : Int) (k : Nat) : List Int := lF P.length fun i => gI L i - (if i < k then nB P S i p * s else 0)
@[simp] theorem sqTo_len (P S L : List Int) (p : Nat) (s : Int) (k : Nat) : (sqTo P S L p s k).length = P.length := by simp [sqTo]
theorem gI_sqTo {P S L : List Int} {p : Nat} {s : Int} {k i : Nat} (h : i < P.length) : gI (sqTo P S L p s k) i = gI L i - (if i < k then nB P S i p * s else 0) := gI_lF h
theorem sqTo_zero {P S L : List Int} {p : Nat} {s : Int} (hl : L.length = P.length) : sqTo P S L p s 0 = L := by
  apply gI_ext (by simp [hl])
  intro i hi
  rw [gI_sqTo (by simpa using hi), if_neg (by omega), Int.sub_zero]
theorem sqTo_yes {P S L : List Int} {p : Nat} {s : Int} {t : Nat} (ht : t < P.length) (hn : nearB P S t (p : Int) = true) : (sqTo P S L p s t).set t (gI L t - s) = sqTo P S L p s (t + 1) := by
  have h1 : nB P S t p = 1 := by unfold nB; rw [if_pos hn]
  apply gI_ext (by simp)
  intro i hi
  have hi' : i < P.length := by simpa using hi
  rw [gI_set, gI_sqTo hi', gI_sqTo hi', sqTo_len]
  by_cases e : t = i
  · subst e; rw [if_pos ⟨rfl, ht⟩, if_pos (show t < t + 1 by omega), h1]; omega
  · rw [if_neg (fun h => e h.1)]
    by_cases e2 : i < t
    · rw [if_pos e2, if_pos (show i < t + 1 by omega)]
    · rw [if_neg e2, if_neg (show ¬ i < t + 1 by omega)]
theorem sqTo_no {P S L : List Int} {p : Nat} {s : Int} {t : Nat} (hn : nearB P S t (p : Int) = false) : sqTo P S L p s t = sqTo P S L p s (t + 1) := by
  have h1 : nB P S t p = 0 := by unfold nB; rw [if_neg (by simp [hn])]
  apply gI_ext (by simp)
  intro i hi
  have hi' : i < P.length := by simpa using hi
  rw [gI_sqTo hi', gI_sqTo hi']
  by_cases e : t = i
  · subst e; rw [if_neg (show ¬ t < t by omega), if_pos (show t < t + 1 by omega), h1]; omega
  · by_cases e2 : i < t
    · rw [if_pos e2, if_pos (show i < t + 1 by omega)]
    · rw [if_neg e2, if_neg (show ¬ i < t + 1 by omega)]
theorem sqTo_end {P S W L : List Int} (hc : CluOk P S W) (_ : L.length = P.length) {p : Nat} (hp : p < P.length) : (sqTo P S L p (upS (gI (exL P S L) p) (hB P S p)) P.length).set p (gI L p + upS (gI (exL P S L) p) (hB P S p)) = stL P S L p := by
  apply gI_ext (by simp)
  intro i hi
  have hi' : i < P.length := by simpa using hi
  unfold stL
  rw [gI_lF hi', gI_set, gI_sqTo hi', sqTo_len, if_pos hi']
  unfold stF
  by_cases e : p = i
  · subst e
    rw [if_pos ⟨rfl, hp⟩, nB_ge hc hp (Nat.le_refl _)]
    show _ = gI L p + (if p = p then _ else 0) - _
    rw [if_pos rfl]; omega
  · rw [if_neg (fun h => e h.1)]
    show _ = gI L i + (if i = p then _ else 0) - _
    rw [if_neg (fun h => e h.symm)]; omega

/-- The least point with a negative excess, and what its unloading leads to. -/
def usN (P S W : List Int) : Int := leastTo (exL P S W) P.length
def usL (P S W : List Int) : List Int := stL P S W (usN P S W).toNat
def usB (P S W : List Int) : Bool := cluB P S W && (decide (0 ≤ usN P S W) && allIn (usL P S W) (-100000) 100000)
def usC (P S W : List Int) : Int := if cluB P S W then (if 0 ≤ usN P S W then okC (allIn (usL P S W) (-100000) 100000) 3 else 4) else 1
theorem usB_1 {P S W : List Int} (h : cluB P S W = false) : usB P S W = false ∧ usC P S W = 1 := by simp [usB, usC, h]
theorem usB_2 {P S W : List Int} (h : cluB P S W = true) (h2 : ¬ 0 ≤ usN P S W) : usB P S W = false ∧ usC P S W = 4 := by simp [usB, usC, h, h2]
theorem usB_3 {P S W : List Int} (h : cluB P S W = true) (h2 : 0 ≤ usN P S W) : usB P S W = allIn (usL P S W) (-100000) 100000 ∧ usC P S W = okC (allIn (usL P S W) (-100000) 100000) 3 := by simp [usB, usC, h, h2]
theorem usL_len (P S W : List Int) : (usL P S W).length = P.length := by simp [usL]
theorem us_len (P S W : List Int) : (okL (usB P S W) (usL P S W)).length ≤ 1048576 := okL_len fun h => by
  have h1 : cluB P S W = true := by simp [usB] at h; exact h.1
  have := (cluB_iff.1 h1).1.2.1
  rw [usL_len]; omega

set_option maxHeartbeats 1000000 in
theorem implUS_1 (p s q : Value) (P S W : List Int) (w : World) (hp : Rd w p P) (hs : Rd w s S) (hq : Rd w q W) (hc : cluB P S W = false) :
    Calls Try.prog 68 #[.agg #[p, s, q]] w (RetCC w [] [] [] 1) := by
  obtain ⟨a1, k1, rfl⟩ := hp.len0
  obtain ⟨a2, k2, rfl⟩ := hs.len0
  obtain ⟨a3, k3, rfl⟩ := hq.len0
  have hqq := hq
  have hx := Boxed.start w 40 #[.slice a1 P.length k1, .slice a2 S.length k2, .slice a3 W.length k3]
  have hxa := hx.alloc (.cells #[.slice none 0 0, .slice none 0 0, .slice none 0 0] 40)
  have D := Blk.new' (w := w.alloc (.cells #[.slice a1 P.length k1, .slice a2 S.length k2, .slice a3 W.length k3] 40)) (t := 40) (cs := #[.slice none 0 0, .slice none 0 0, .slice none 0 0]) (g := w.heap.size + 1) (by simp)
  have c0 := hxa.cell 0
  have c1 := hxa.cell 1
  have c2 := hxa.cell 2
  go_enter Try.func68, Try.ntmps68
  go_wp2_with fail
  refine (implIsCluster_c _ _ _ P S W _ (hxa.rd hp) (hxa.rd hs) (hxa.rd hq)).mono ?_
  rintro e w1 ⟨rfl, hb⟩
  rw [hc]
  have D1 := D.stays hb
  have hx1 := hxa.trans hb
  have f0 := D1.free 0
  have f1 := D1.free 1
  have f2 := D1.free 2
  have e0 := D1.cell 0
  have e1 := D1.cell 1
  have e2 := D1.cell 2
  clear c0 c1 c2
  go_wp2
  have q0 := ((((D1).set 0 (.slice none 0 0)).set 1 (.slice none 0 0)).set 2 (.slice none 0 0)).cell 0
  have q1 := ((((D1).set 0 (.slice none 0 0)).set 1 (.slice none 0 0)).set 2 (.slice none 0 0)).cell 1
  have q2 := ((((D1).set 0 (.slice none 0 0)).set 1 (.slice none 0 0)).set 2 (.slice none 0 0)).cell 2
  refine bodyPost_ret (v := .tuple #[.agg #[.slice none 0 0, .slice none 0 0, .slice none 0 0], .int .i64 1]) (by simp [results, Try.results68, go_sem, q0, q1, q2]) rfl ⟨none, 0, none, 0, none, 0, rfl, own3_nil _ _ _, ?_⟩
  exact ((hx1.below.setCell (p := ⟨w.heap.size + 1, 0, none⟩) (Nat.le_succ _) _).setCell (p := ⟨w.heap.size + 1, 1, none⟩) (Nat.le_succ _) _).setCell (p := ⟨w.heap.size + 1, 2, none⟩) (Nat.le_succ _) _

set_option maxRecDepth 100000 in
set_option maxHeartbeats 1000000 in
theorem implUS_2 (p s q : Value) (P S W : List Int) (w : World) (hp : Rd w p P) (hs : Rd w s S) (hq : Rd w q W) (hc : cluB P S W = true) (hn : ¬ 0 ≤ usN P S W) :
    Calls Try.prog 68 #[.agg #[p, s, q]] w (RetCC w [] [] [] 4) := by
  obtain ⟨a1, k1, rfl⟩ := hp.len0
  obtain ⟨a2, k2, rfl⟩ := hs.len0
  obtain ⟨a3, k3, rfl⟩ := hq.len0
  have hqq := hq
  have hcl := cluB_iff.1 hc
  have hl := Lib.hid (clu_unlOk hcl).1
  have hcl1 := Lib.hid (show S.length = P.length from hcl.1.2.2.1)
  have hcl2 : 0 < P.length := hcl.1.1
  have hcl3 : P.length ≤ 24 := hcl.1.2.1
  have hcl4 : P.length ≤ 9223372036854775807 := by omega
  have hnum := Lib.hid (show ∀ i, i < W.length → -1000000000000 ≤ gI W i ∧ gI W i ≤ 1000000000000 from fun i hi => by have := hcl.2.1 i hi; omega)
  have hex := Lib.hid (exOk_clu hcl hl.out hnum.out)
  have HCL := Lib.hid hcl
  clear hcl
  have hn1 : usN P S W = -1 := by
    rcases leastTo_spec (exL P S W) P.length with h | h
    · exact h.1
    · exact absurd h.1 hn
  clear hn
  have hx := Boxed.start w 40 #[.slice a1 P.length k1, .slice a2 S.length k2, .slice a3 W.length k3]
  have hxa := hx.alloc (.cells #[.slice none 0 0, .slice none 0 0, .slice none 0 0] 40)
  have D := Blk.new' (w := w.alloc (.cells #[.slice a1 P.length k1, .slice a2 S.length k2, .slice a3 W.length k3] 40)) (t := 40) (cs := #[.slice none 0 0, .slice none 0 0, .slice none 0 0]) (g := w.heap.size + 1) (by simp)
  have c0 := hxa.cell 0
  have c1 := hxa.cell 1
  have c2 := hxa.cell 2
  go_enter Try.func68, Try.ntmps68
  go_wp2_with fail
  refine (implIsCluster_c _ _ _ P S W _ (hxa.rd hp) (hxa.rd hs) (hxa.rd hq)).mono ?_
  rintro e w1 ⟨rfl, hb⟩
  rw [hc]
  have D1 := D.stays hb
  have hx1 := hxa.trans hb
  have hz1 : w.heap.size + 2 ≤ w1.heap.size := Nat.le_trans (by simp) hb.size
  clear c0 c1 c2
  have c0 := hx1.cell 0
  have c1 := hx1.cell 1
  have c2 := hx1.cell 2
  go_wp2_with fail
  refine (clusterProximates_c _ _ _ P S W _ (hx1.rd hp) (hx1.rd hs) (hx1.rd hqq) hcl1.out hcl2 hcl3).mono ?_
  rintro e w2 ⟨gp, V, rfl, hrow, hq2⟩
  have D2 := D1.stays hq2
  have hx2 := hx1.trans hq2
  have hrd2 := hrow.rd (cap := P.length) (Nat.le_refl _) hcl4
  clear c0 c1 c2
  have c0 := hx2.cell 0
  have c1 := hx2.cell 1
  have c2 := hx2.cell 2
  go_wp2_with fail
  refine (excesses_c _ _ _ P S W _ (hx2.rd hp) (hx2.rd hs) (hx2.rd hqq) HCL.out).mono ?_
  rintro e w3 ⟨ae, ke, rfl, hoe, hq3⟩
  have D3 := D2.stays hq3
  have hx3 := hx2.trans hq3
  have hrd3 := hrd2.below hq3 (Nat.le_refl _)
  have hel : (exTo (proxL P S) W P.length).length = P.length := by rw [exTo_len]; exact hl.out
  rw [hel] at hoe ⊢
  have hrn := hoe.rd
  have hln : (exTo (proxL P S) W P.length).length ≤ 1000000 := by omega
  have HEL := Lib.hid hel
  clear hel hoe
  go_wp2_with fail
  refine (indexNeg_c _ _ _ hrn hln).mono ?_
  rintro e w3' ⟨rfl, rfl⟩
  rw [HEL.out]
  have heq : leastTo (exTo (proxL P S) W P.length) P.length = usN P S W := rfl
  rw [heq]
  clear heq hrn hln HEL c0 c1 c2
  rw [hn1]
  have f0 := D3.free 0
  have f1 := D3.free 1
  have f2 := D3.free 2
  have e0 := D3.cell 0
  have e1 := D3.cell 1
  have e2 := D3.cell 2
  go_wp2
  have q0 := ((((D3).set 0 (.slice none 0 0)).set 1 (.slice none 0 0)).set 2 (.slice none 0 0)).cell 0
  have q1 := ((((D3).set 0 (.slice none 0 0)).set 1 (.slice none 0 0)).set 2 (.slice none 0 0)).cell 1
  have q2 := ((((D3).set 0 (.slice none 0 0)).set 1 (.slice none 0 0)).set 2 (.slice none 0 0)).cell 2
  refine bodyPost_ret (v := .tuple #[.agg #[.slice none 0 0, .slice none 0 0, .slice none 0 0], .int .i64 4]) (by simp [results, Try.results68, go_sem, q0, q1, q2]) rfl ⟨none, 0, none, 0, none, 0, rfl, own3_nil _ _ _, ?_⟩
  exact ((hx3.below.setCell (p := ⟨w.heap.size + 1, 0, none⟩) (Nat.le_succ _) _).setCell (p := ⟨w.heap.size + 1, 1, none⟩) (Nat.le_succ _) _).setCell (p := ⟨w.heap.size + 1, 2, none⟩) (Nat.le_succ _) _

set_option maxRecDepth 100000 in
set_option maxHeartbeats 4000000 in
theorem implUS_3 (p s q : Value) (P S W : List Int) (w : World) (hp : Rd w p P) (hs : Rd w s S) (hq : Rd w q W) (hc : cluB P S W = true) (hn : 0 ≤ usN P S W) :
    Calls Try.prog 68 #[.agg #[p, s, q]] w (RetCC w (okL (allIn (usL P S W) (-100000) 100000) P) (okL (allIn (usL P S W) (-100000) 100000) S) (okL (allIn (usL P S W) (-100000) 100000) (usL P S W)) (okC (allIn (usL P S W) (-100000) 100000) 3)) := by
  obtain ⟨a1, k1, rfl⟩ := hp.len0
  obtain ⟨a2, k2, rfl⟩ := hs.len0
  obtain ⟨a3, k3, rfl⟩ := hq.len0
  have hqq := hq
  have hcl := cluB_iff.1 hc
  have hl := Lib.hid (clu_unlOk hcl).1
  have hcl1 := Lib.hid (show S.length = P.length from hcl.1.2.2.1)
  have hcl2 : 0 < P.length := hcl.1.1
  have hcl3 : P.length ≤ 24 := hcl.1.2.1
  have hcl4 : P.length ≤ 9223372036854775807 := by omega
  have hnum := Lib.hid (show ∀ i, i < W.length → -1000000000000 ≤ gI W i ∧ gI W i ≤ 1000000000000 from fun i hi => by have := hcl.2.1 i hi; omega)
  have hex := Lib.hid (exOk_clu hcl hl.out hnum.out)
  have HCL := Lib.hid hcl
  clear hcl
  obtain ⟨t, ht⟩ := Int.eq_ofNat_of_zero_le hn
  have hsp : t < P.length ∧ gI (exL P S W) t < 0 := by
    rcases leastTo_spec (exL P S W) P.length with h | h
    · have : usN P S W = -1 := h.1
      omega
    · have h2 : usN P S W < P.length := h.2.1
      have h3 : gI (exL P S W) (usN P S W).toNat < 0 := h.2.2.1
      have e : (usN P S W).toNat = t := by omega
      rw [e] at h3
      exact ⟨by omega, h3⟩
  obtain ⟨htP, hneg⟩ := hsp
  have hE := exF_bd (P := P) (S := S) (A := fun i => gI W i) (b := 1000000000000) hcl3 (fun i hi => hnum.out i (by have := hl.out; omega)) htP
  rw [← exL_at HCL.out hl.out htP] at hE
  have hh := hB_bd P S t hcl3
  have HEND := Lib.hid (sqTo_end HCL.out hl.out htP)
  have HUS := Lib.hid (show usL P S W = stL P S W t by unfold usL; rw [ht]; rfl)
  have hW0 : 0 < W.length := by have := hl.out; omega
  have hWn : W.length ≤ 1000000 := by have := hl.out; omega
  have hti : (t : Int) < (P.length : Int) := by omega
  have ht0 : (0 : Int) ≤ (t : Int) := Int.natCast_nonneg _
  have ht1 : ¬ (t : Int) < 0 := by omega
  rw [HUS.out]
  have hwt := hnum.out t (by have := hl.out; omega)
  clear hn HUS
  have hx := Boxed.start w 40 #[.slice a1 P.length k1, .slice a2 S.length k2, .slice a3 W.length k3]
  have hxa := hx.alloc (.cells #[.slice none 0 0, .slice none 0 0, .slice none 0 0] 40)
  have D := Blk.new' (w := w.alloc (.cells #[.slice a1 P.length k1, .slice a2 S.length k2, .slice a3 W.length k3] 40)) (t := 40) (cs := #[.slice none 0 0, .slice none 0 0, .slice none 0 0]) (g := w.heap.size + 1) (by simp)
  have c0 := hxa.cell 0
  have c1 := hxa.cell 1
  have c2 := hxa.cell 2
  go_enter Try.func68, Try.ntmps68
  go_wp2_with fail
  refine (implIsCluster_c _ _ _ P S W _ (hxa.rd hp) (hxa.rd hs) (hxa.rd hq)).mono ?_
  rintro e w1 ⟨rfl, hb⟩
  rw [hc]
  have D1 := D.stays hb
  have hx1 := hxa.trans hb
  have hz1 : w.heap.size + 2 ≤ w1.heap.size := Nat.le_trans (by simp) hb.size
  clear c0 c1 c2
  have c0 := hx1.cell 0
  have c1 := hx1.cell 1
  have c2 := hx1.cell 2
  go_wp2_with fail
  refine (clusterProximates_c _ _ _ P S W _ (hx1.rd hp) (hx1.rd hs) (hx1.rd hqq) hcl1.out hcl2 hcl3).mono ?_
  rintro e w2 ⟨gp, V, rfl, hrow, hq2⟩
  have D2 := D1.stays hq2
  have hx2 := hx1.trans hq2
  have hrd2 := hrow.rd (cap := P.length) (Nat.le_refl _) hcl4
  clear c0 c1 c2
  have c0 := hx2.cell 0
  have c1 := hx2.cell 1
  have c2 := hx2.cell 2
  go_wp2_with fail
  refine (excesses_c _ _ _ P S W _ (hx2.rd hp) (hx2.rd hs) (hx2.rd hqq) HCL.out).mono ?_
  rintro e w3 ⟨ae, ke, rfl, hoe, hq3⟩
  have D3 := D2.stays hq3
  have hx3 := hx2.trans hq3
  have hrd3 := hrd2.below hq3 (Nat.le_refl _)
  have hel : (exTo (proxL P S) W P.length).length = P.length := by rw [exTo_len]; exact hl.out
  rw [hel] at hoe ⊢
  have hrn := hoe.rd
  have hln : (exTo (proxL P S) W P.length).length ≤ 1000000 := by omega
  have HEL := Lib.hid hel
  clear hel hoe
  go_wp2_with fail
  refine (indexNeg_c _ _ _ hrn hln).mono ?_
  rintro e w3' ⟨rfl, rfl⟩
  rw [HEL.out]
  have heq : leastTo (exTo (proxL P S) W P.length) P.length = usN P S W := rfl
  rw [heq]
  clear heq hrn hln HEL c0 c1 c2
  rw [ht]
  have c0 := hx3.cell 0
  have c1 := hx3.cell 1
  have c2 := hx3.cell 2
  go_wp2_with fail
  refine (clone_c _ W _ (hx3.rd hqq) hW0 hWn).mono ?_
  rintro e w4 ⟨ao, ko, rfl, hown, hq4⟩
  obtain ⟨gO, kO', hge, hO0, hO1, hO2, hO3⟩ := Own.pos hown hW0
  injection hge with hge1 hge2 hge3
  subst hge1 hge3
  clear hge2
  rw [hl.out] at hown ⊢
  have D4 := D3.stays hq4
  have hx4 := hx3.trans hq4
  have hz2 := hq2.size
  have hz3 := hq3.size
  have hz3 : w.heap.size + 2 ≤ w3.heap.size := by omega
  have hrp : (proxL P S).length = P.length := prox_len P S
  have hsz4 := hq4.size
  clear c0 c1 c2 D D1 D2 D3 hxa hx1 hx2 hx3 hrd2 hrow hb hz2
  obtain ⟨br, ofr, kr, hre, hr1, hr2, hrb, hrc⟩ := hrd3.cells (by simp; omega)
  injection hre with hre1 hre2 hre3
  injection hre1 with hre1
  injection hre1 with e1 e2 e3
  subst e1 e2
  clear hre2 hre3
  simp only [List.length_map, List.length_range] at hrc
  have hrow : ∀ j, j < P.length → ∃ u, w3.cell? ⟨gp, j, none⟩ = some u ∧ Rd w3 u (proxOf P S j) := fun j hj => by
    obtain ⟨u, h1, h2⟩ := hrc j hj
    rw [gR_map hj, Nat.zero_add] at *
    exact ⟨u, h1, h2⟩
  have HROW := Lib.hid (fun j (hj : j < P.length) (wr : World) (hk : Below w3.heap.size w3 wr) => show ∃ u, wr.cell? ⟨gp, j, none⟩ = some u ∧ Rd wr u (proxOf P S j) from by
    obtain ⟨u, h1, h2⟩ := hrow j hj
    exact ⟨u, by rw [hk.cell (p := ⟨gp, j, none⟩) hrb]; exact h1, h2.below hk (Nat.le_refl _)⟩)
  clear hrc hrow hrd3
  go_wp2
  go_loop [7, 30] (fun hv jv => ∃ j : Nat, j ≤ P.length ∧ jv = .int .i64 j ∧ hv = .int .i64 (1 + sumTo (fun j => nB P S j t) j)) (fun _ jv => P.length - (intOf jv).toNat)
  case atStart => exact ⟨0, Nat.zero_le _, rfl, rfl⟩
  case round =>
    obtain ⟨j, hj, rfl, rfl⟩ := hrel
    by_cases hjt : j < P.length
    · have hji : (j : Int) < (P.length : Int) := by omega
      obtain ⟨u, hu, hur⟩ := HROW.out j hjt _ hq4
      have hsb := sumTo_bound (f := fun j => nB P S j t) (n := j) 0 1 (fun i _ => by rcases nB_01 P S i t with h | h <;> omega)
      have HS := Lib.hid (sumTo_succ (fun j => nB P S j t) j)
      have hcn := Lib.hid (contains_near HCL.out hjt t)
      have hrl : (proxOf P S j).length ≤ 1000000 := by have := hex.out.rowlen j (by rw [hrp]; exact hjt); rw [prox_row hjt] at this; omega
      obtain ⟨au, ku, rfl⟩ := hur.len0
      go_wp2_with fail
      refine (contains_c _ (proxOf P S j) (t : Int) _ hur hrl).mono ?_
      rintro e w5 ⟨rfl, rfl⟩
      rw [hcn.out]
      generalize sumTo (fun j => nB P S j t) j = z at hsb HS
      have z1 : 0 ≤ z := by omega
      have z2 : z ≤ 100 := by omega
      clear hsb hu hur
      cases hnb : nearB P S j (t : Int)
      · have h1 := Lib.hid (show nB P S j t = 0 by rw [nB_near, hnb]; rfl)
        go_wp2
        go_round
        case rel => exact ⟨j + 1, by omega, by go_num, by rw [HS.out, h1.out, Int.add_zero]⟩
        case measure => simp [intOf]; omega
      · have h1 := Lib.hid (show nB P S j t = 1 by rw [nB_near, hnb]; rfl)
        go_wp2
        go_round
        case rel => exact ⟨j + 1, by omega, by go_num, by rw [HS.out, h1.out, Int.add_assoc]⟩
        case measure => simp [intOf]; omega
    · have hj' : j = P.length := by omega
      subst hj'
      have hBe : sumTo (fun j => nB P S j t) P.length = hB P S t := rfl
      rw [hBe]
      clear hBe
      have c0 := hx4.cell 0
      have c1 := hx4.cell 1
      have c2 := hx4.cell 2
      go_wp2_with fail
      refine (excesses_c _ _ _ P S W _ (hx4.rd hp) (hx4.rd hs) (hx4.rd hqq) HCL.out).mono ?_
      rintro e w5 ⟨ae, ke', rfl, hoe, hq5⟩
      have hel : (exTo (proxL P S) W P.length).length = P.length := by rw [exTo_len]; exact hl.out
      obtain ⟨gE, kE, hge, hE0, hE1, hE2, hE3⟩ := Own.pos hoe (by rw [hel]; omega)
      injection hge with hge1 hge2 hge3
      subst hge1 hge3
      have de := hoe.cell t (by rw [hel]; exact htP)
      have heq : gI (exTo (proxL P S) W P.length) t = gI (exL P S W) t := rfl
      rw [heq] at de
      rw [hel]
      clear hel
      have D5 := D4.stays hq5
      have hx5 := hx4.trans hq5
      have hown5 := hown.below hq5 (Nat.le_refl _)
      have HTD := Lib.hid (upS_tdiv hneg hh.1)
      have hub := upS_bd hneg hh.1
      have hbw5 := below_step hq4 hq5
      clear hge2 heq hoe c0 c1 c2 D4 hx4 hown hq4
      obtain ⟨hE1', hE2'⟩ := hE
      obtain ⟨hh1, hh2⟩ := hh
      obtain ⟨u1, u2⟩ := hub
      generalize gI (exL P S W) t = ex at hneg hE1' hE2' de HTD u1 u2 HEND
      generalize hB P S t = hb at hh1 hh2 HTD u1 u2 HEND
      have w1' : IntKind.i64.wrap (-ex) = -ex := IntWalk.i64_in _ (by omega)
      have w3' : IntKind.i64.wrap (-ex + (1 + hb)) = -ex + (1 + hb) := IntWalk.i64_in _ (by omega)
      have w4' : IntKind.i64.wrap (-ex + (1 + hb) - 1) = -ex + hb := by
        have e : -ex + (1 + hb) - 1 = -ex + hb := by omega
        rw [e]
        exact IntWalk.i64_in _ (by omega)
      have w5' : ¬ (1 + hb) = 0 := by omega
      have w6' : IntKind.i64.wrap (Int.tdiv (-ex + hb) (1 + hb)) = upS ex hb := by rw [HTD.out]; exact IntWalk.i64_in _ (by omega)
      clear HTD
      generalize upS ex hb = sv at u1 u2 w6' HEND
      have s1 : sv ≤ 100000000000000 := by omega
      clear u2
      go_wp2
      go_loopw [53] (fun jv wr => ∃ j : Nat, j ≤ P.length ∧ jv = .int .i64 j ∧ OwnI wr w3.heap.size (.slice (some ⟨gO, 0, none⟩) P.length ko) (sqTo P S W t sv j) ∧ Keeps (fun k => k = gO) w5 wr) (fun jv _ => P.length - (intOf jv).toNat)
      case atStart => exact ⟨0, Nat.zero_le _, rfl, by rw [sqTo_zero hl.out]; exact hown5, Keeps.refl _ _⟩
      case round =>
        obtain ⟨j, hj, rfl, ho6, hk6⟩ := hrel
        clear hown5 de
        obtain ⟨wq, rfl⟩ : ∃ wo : World, wo = wr := ⟨_, rfl⟩
        have hbw6 := hbw5.trans (hk6.below hbw5.size (fun k hk => by omega))
        by_cases hjt : j < P.length
        · have hji : (j : Int) < (P.length : Int) := by omega
          have hj0 : (0 : Int) ≤ (j : Int) := Int.natCast_nonneg _
          obtain ⟨u, hu, hur⟩ := HROW.out j hjt _ hbw6
          have hcn := Lib.hid (contains_near HCL.out hjt t)
          have hrl : (proxOf P S j).length ≤ 1000000 := by have := hex.out.rowlen j (by rw [hrp]; exact hjt); rw [prox_row hjt] at this; omega
          obtain ⟨au, ku, rfl⟩ := hur.len0
          go_wp2_with fail
          refine (contains_c _ (proxOf P S j) (t : Int) _ hur hrl).mono ?_
          rintro e w6 ⟨rfl, rfl⟩
          rw [hcn.out]
          clear hu hur
          cases hnb : nearB P S j (t : Int)
          · have h1 := Lib.hid (sqTo_no (L := W) (s := sv) hnb)
            go_wp2
            go_roundw
            case rel => exact ⟨j + 1, by omega, by go_num, by rw [← h1.out]; exact ho6, hk6⟩
            case measure => simp [intOf]; omega
          · have h1 := Lib.hid (sqTo_yes (L := W) (s := sv) hjt hnb)
            have hlj := hnum.out j (by have := hl.out; omega)
            have hO7 : OwnI wq w3.heap.size (.slice (some ⟨gO, 0, none⟩) (sqTo P S W t sv j).length ko) (sqTo P S W t sv j) := by rw [sqTo_len]; exact ho6
            have dy := hO7.cell j (by rw [sqTo_len]; exact hjt)
            rw [gI_sqTo hjt, if_neg (show ¬ j < j by omega), Int.sub_zero] at dy
            have fy := hO7.free j
            have hset7 := hO7.set j (gI W j - sv)
            rw [h1.out, sqTo_len] at hset7
            have hk8 := hk6.setCell (p := ⟨gO, j, none⟩) rfl (.int .i64 (gI W j - sv))
            have HS8 := Lib.hid hset7
            have HK8 := Lib.hid hk8
            clear hset7 hk8 hO7 ho6 hk6 hbw6
            generalize gI W j = y at dy HS8 HK8 hlj
            obtain ⟨y1, y2⟩ := hlj
            go_wp2
            go_roundw
            case rel => exact ⟨j + 1, by omega, by go_num, HS8.out, HK8.out⟩
            case measure => simp [intOf]; omega
        · have hj' : j = P.length := by omega
          subst hj'
          have hO : OwnI wq w3.heap.size (.slice (some ⟨gO, 0, none⟩) (sqTo P S W t sv P.length).length ko) (sqTo P S W t sv P.length) := by rw [sqTo_len]; exact ho6
          have dz := hO.cell t (by rw [sqTo_len]; exact htP)
          rw [gI_sqTo htP, if_pos htP, nB_ge HCL.out htP (Nat.le_refl _), Int.zero_mul, Int.sub_zero] at dz
          have fz := hO.free t
          have hset := hO.set t (gI W t + sv)
          rw [HEND.out, sqTo_len] at hset
          have hk7 := hk6.setCell (p := ⟨gO, t, none⟩) rfl (.int .i64 (gI W t + sv))
          have hx7 := hx5.wrote (hk7.mono (M' := fun k => w.heap.size + 1 ≤ k) (fun k hk => by omega))
          have D7 := D5.keeps hk7 (by omega)
          have hsz7 := hk7.size
          have hsz5 := hbw5.size
          have hsz7 : w3.heap.size ≤ (wq.setCell ⟨gO, t, none⟩ (.int .i64 (gI W t + sv))).heap.size := by omega
          clear hO ho6 hk6 hbw6 hx5 D5
          generalize gI W t = y at dz hset hk7 hx7 D7 hwt hsz7
          obtain ⟨y1, y2⟩ := hwt
          have c0 := hx7.cell 0
          have c1 := hx7.cell 1
          have c2 := hx7.cell 2
          go_wp2_with fail
          refine (checkedWeightsN_c P.length _ _ _ _ _ P S W (stL P S W t) w3.heap.size _ (hx7.rd hp) (hx7.rd hs) HCL.out hset hsz7 (stL_len _ _ _ _)).mono ?_
          rintro e w8 ⟨b1, j1, b2, j2, b3, j3, rfl, ho8, hq8⟩
          have hx8 := hx7.trans hq8
          have D8 := D7.stays hq8
          clear c0 c1 c2
          have f0 := D8.free 0
          have f1 := D8.free 1
          have f2 := D8.free 2
          have e0 := D8.cell 0
          have e1 := D8.cell 1
          have e2 := D8.cell 2
          go_wp2
          have F := ((D8.set 0 (.slice b1 (okL (allIn (stL P S W t) (-100000) 100000) P).length j1)).set 1 (.slice b2 (okL (allIn (stL P S W t) (-100000) 100000) S).length j2)).set 2 (.slice b3 (okL (allIn (stL P S W t) (-100000) 100000) (stL P S W t)).length j3)
          have q0 := F.cell 0
          have q1 := F.cell 1
          have q2 := F.cell 2
          have hK : Keeps (fun k => k = w.heap.size + 1) w8 (((w8.setCell ⟨w.heap.size + 1, 0, none⟩ (.slice b1 (okL (allIn (stL P S W t) (-100000) 100000) P).length j1)).setCell ⟨w.heap.size + 1, 1, none⟩ (.slice b2 (okL (allIn (stL P S W t) (-100000) 100000) S).length j2)).setCell ⟨w.heap.size + 1, 2, none⟩ (.slice b3 (okL (allIn (stL P S W t) (-100000) 100000) (stL P S W t)).length j3)) := ((((Keeps.refl (fun k => k = w.heap.size + 1) w8).setCell (p := ⟨w.heap.size + 1, 0, none⟩) rfl _).setCell (p := ⟨w.heap.size + 1, 1, none⟩) rfl _).setCell (p := ⟨w.heap.size + 1, 2, none⟩) rfl _)
          refine bodyPost_ret (v := .tuple #[.agg #[.slice b1 (okL (allIn (stL P S W t) (-100000) 100000) P).length j1, .slice b2 (okL (allIn (stL P S W t) (-100000) 100000) S).length j2, .slice b3 (okL (allIn (stL P S W t) (-100000) 100000) (stL P S W t)).length j3], .int .i64 (okC (allIn (stL P S W t) (-100000) 100000) 3)]) (by simp [results, Try.results68, go_sem, q0, q1, q2]) rfl ⟨_, _, _, _, _, _, rfl, ?_, ?_⟩
          · exact (ho8.keeps hK (fun k hk e => by have := (ho8.block k hk).1; omega)).base_le (by omega)
          · exact hx8.below.trans (hK.below (by have := hx8.size; omega) (fun k hk => by omega))

end Go.Proofs.Ytiinceflafigeaa

/- Contracts: UnloadStep, the reference. -/
namespace Go.Proofs.Ytiinceflafigeaa
open Go.RowKit

set_option maxHeartbeats 1000000 in
theorem specUS_1 (p s q : Value) (P S W : List Int) (w : World) (hp : Rd w p P) (hs : Rd w s S) (hq : Rd w q W) (hc : cluB P S W = false) :
    Calls Try.prog 69 #[.agg #[p, s, q]] w (RetCC w [] [] [] 1) := by
  obtain ⟨a1, k1, rfl⟩ := hp.len0
  obtain ⟨a2, k2, rfl⟩ := hs.len0
  obtain ⟨a3, k3, rfl⟩ := hq.len0
  have hqq := hq
  have hx := Boxed.start w 40 #[.slice a1 P.length k1, .slice a2 S.length k2, .slice a3 W.length k3]
  have hxa := hx.alloc (.cells #[.slice none 0 0, .slice none 0 0, .slice none 0 0] 40)
  have D := Blk.new' (w := w.alloc (.cells #[.slice a1 P.length k1, .slice a2 S.length k2, .slice a3 W.length k3] 40)) (t := 40) (cs := #[.slice none 0 0, .slice none 0 0, .slice none 0 0]) (g := w.heap.size + 1) (by simp)
  have c0 := hxa.cell 0
  have c1 := hxa.cell 1
  have c2 := hxa.cell 2
  go_enter Try.func69, Try.ntmps69
  go_wp2_with fail
  refine (l07Is_c _ _ _ P S W _ (hxa.rd hp) (hxa.rd hs) (hxa.rd hq)).mono ?_
  rintro e w1 ⟨rfl, hb⟩
  rw [hc]
  have D1 := D.stays hb
  have hx1 := hxa.trans hb
  have f0 := D1.free 0
  have f1 := D1.free 1
  have f2 := D1.free 2
  have e0 := D1.cell 0
  have e1 := D1.cell 1
  have e2 := D1.cell 2
  clear c0 c1 c2
  go_wp2
  have q0 := ((((D1).set 0 (.slice none 0 0)).set 1 (.slice none 0 0)).set 2 (.slice none 0 0)).cell 0
  have q1 := ((((D1).set 0 (.slice none 0 0)).set 1 (.slice none 0 0)).set 2 (.slice none 0 0)).cell 1
  have q2 := ((((D1).set 0 (.slice none 0 0)).set 1 (.slice none 0 0)).set 2 (.slice none 0 0)).cell 2
  refine bodyPost_ret (v := .tuple #[.agg #[.slice none 0 0, .slice none 0 0, .slice none 0 0], .int .i64 1]) (by simp [results, Try.results69, go_sem, q0, q1, q2]) rfl ⟨none, 0, none, 0, none, 0, rfl, own3_nil _ _ _, ?_⟩
  exact ((hx1.below.setCell (p := ⟨w.heap.size + 1, 0, none⟩) (Nat.le_succ _) _).setCell (p := ⟨w.heap.size + 1, 1, none⟩) (Nat.le_succ _) _).setCell (p := ⟨w.heap.size + 1, 2, none⟩) (Nat.le_succ _) _

set_option maxRecDepth 100000 in
set_option maxHeartbeats 1000000 in
theorem specUS_2 (p s q : Value) (P S W : List Int) (w : World) (hp : Rd w p P) (hs : Rd w s S) (hq : Rd w q W) (hc : cluB P S W = true) (hn : ¬ 0 ≤ usN P S W) :
    Calls Try.prog 69 #[.agg #[p, s, q]] w (RetCC w [] [] [] 4) := by
  obtain ⟨a1, k1, rfl⟩ := hp.len0
  obtain ⟨a2, k2, rfl⟩ := hs.len0
  obtain ⟨a3, k3, rfl⟩ := hq.len0
  have hqq := hq
  have hcl := cluB_iff.1 hc
  have hl := Lib.hid (clu_unlOk hcl).1
  have hcl1 := Lib.hid (show S.length = P.length from hcl.1.2.2.1)
  have hcl2 : 0 < P.length := hcl.1.1
  have hcl3 : P.length ≤ 24 := hcl.1.2.1
  have hcl4 : P.length ≤ 9223372036854775807 := by omega
  have hnum := Lib.hid (show ∀ i, i < W.length → -1000000000000 ≤ gI W i ∧ gI W i ≤ 1000000000000 from fun i hi => by have := hcl.2.1 i hi; omega)
  have hex := Lib.hid (exOk_clu hcl hl.out hnum.out)
  have HCL := Lib.hid hcl
  clear hcl
  have hn1 : usN P S W = -1 := by
    rcases leastTo_spec (exL P S W) P.length with h | h
    · exact h.1
    · exact absurd h.1 hn
  clear hn
  have hx := Boxed.start w 40 #[.slice a1 P.length k1, .slice a2 S.length k2, .slice a3 W.length k3]
  have hxa := hx.alloc (.cells #[.slice none 0 0, .slice none 0 0, .slice none 0 0] 40)
  have D := Blk.new' (w := w.alloc (.cells #[.slice a1 P.length k1, .slice a2 S.length k2, .slice a3 W.length k3] 40)) (t := 40) (cs := #[.slice none 0 0, .slice none 0 0, .slice none 0 0]) (g := w.heap.size + 1) (by simp)
  have c0 := hxa.cell 0
  have c1 := hxa.cell 1
  have c2 := hxa.cell 2
  go_enter Try.func69, Try.ntmps69
  go_wp2_with fail
  refine (l07Is_c _ _ _ P S W _ (hxa.rd hp) (hxa.rd hs) (hxa.rd hq)).mono ?_
  rintro e w0 ⟨rfl, hb⟩
  rw [hc]
  have D1 := D.stays hb
  have hx1 := hxa.trans hb
  clear c0 c1 c2
  have c0 := hx1.cell 0
  have c1 := hx1.cell 1
  have c2 := hx1.cell 2
  go_wp2_with fail
  refine (l08Least_c _ _ _ _ P S W W _ (hx1.rd hp) (hx1.rd hs) (hx1.rd hqq) ⟨_, _, _, rfl⟩ HCL.out hl.out hnum.out).mono ?_
  rintro e w1 ⟨rfl, hb2⟩
  have D1 := D1.stays hb2
  have hz1 : w.heap.size + 2 ≤ w1.heap.size := Nat.le_trans (Nat.le_trans (by simp) hb.size) hb2.size
  have hx1 := hx1.trans hb2
  have heq : leastTo (exL P S W) P.length = usN P S W := rfl
  rw [heq]
  clear heq c0 c1 c2 hb2
  rw [hn1]
  have f0 := D1.free 0
  have f1 := D1.free 1
  have f2 := D1.free 2
  have e0 := D1.cell 0
  have e1 := D1.cell 1
  have e2 := D1.cell 2
  go_wp2
  have q0 := ((((D1).set 0 (.slice none 0 0)).set 1 (.slice none 0 0)).set 2 (.slice none 0 0)).cell 0
  have q1 := ((((D1).set 0 (.slice none 0 0)).set 1 (.slice none 0 0)).set 2 (.slice none 0 0)).cell 1
  have q2 := ((((D1).set 0 (.slice none 0 0)).set 1 (.slice none 0 0)).set 2 (.slice none 0 0)).cell 2
  refine bodyPost_ret (v := .tuple #[.agg #[.slice none 0 0, .slice none 0 0, .slice none 0 0], .int .i64 4]) (by simp [results, Try.results69, go_sem, q0, q1, q2]) rfl ⟨none, 0, none, 0, none, 0, rfl, own3_nil _ _ _, ?_⟩
  exact ((hx1.below.setCell (p := ⟨w.heap.size + 1, 0, none⟩) (Nat.le_succ _) _).setCell (p := ⟨w.heap.size + 1, 1, none⟩) (Nat.le_succ _) _).setCell (p := ⟨w.heap.size + 1, 2, none⟩) (Nat.le_succ _) _

set_option maxRecDepth 100000 in
set_option maxHeartbeats 4000000 in
theorem specUS_3 (p s q : Value) (P S W : List Int) (w : World) (hp : Rd w p P) (hs : Rd w s S) (hq : Rd w q W) (fb : Bool) (t : Nat) (hc : cluB P S W = true) (ht : usN P S W = (t : Int)) (hw0 : cluB P S (stL P S W t) = fb) :
    Calls Try.prog 69 #[.agg #[p, s, q]] w (RetCC w (okL fb P) (okL fb S) (okL fb (stL P S W t)) (okC fb 3)) := by
  obtain ⟨a1, k1, rfl⟩ := hp.len0
  obtain ⟨a2, k2, rfl⟩ := hs.len0
  obtain ⟨a3, k3, rfl⟩ := hq.len0
  have hqq := hq
  have hcl := cluB_iff.1 hc
  have hl := Lib.hid (clu_unlOk hcl).1
  have hcl1 := Lib.hid (show S.length = P.length from hcl.1.2.2.1)
  have hcl2 : 0 < P.length := hcl.1.1
  have hcl3 : P.length ≤ 24 := hcl.1.2.1
  have hcl4 : P.length ≤ 9223372036854775807 := by omega
  have hnum := Lib.hid (show ∀ i, i < W.length → -1000000000000 ≤ gI W i ∧ gI W i ≤ 1000000000000 from fun i hi => by have := hcl.2.1 i hi; omega)
  have hex := Lib.hid (exOk_clu hcl hl.out hnum.out)
  have HCL := Lib.hid hcl
  clear hcl
  have hwy := Lib.hid hw0
  have hsp : t < P.length ∧ gI (exL P S W) t < 0 := by
    rcases leastTo_spec (exL P S W) P.length with h | h
    · have : usN P S W = -1 := h.1
      omega
    · have h2 : usN P S W < P.length := h.2.1
      have h3 : gI (exL P S W) (usN P S W).toNat < 0 := h.2.2.1
      have e : (usN P S W).toNat = t := by omega
      rw [e] at h3
      exact ⟨by omega, h3⟩
  obtain ⟨htP, hneg0⟩ := hsp
  have hneg := Lib.hid hneg0
  have hul := Lib.hid (stL_len P S W t)
  have ht1 : ¬ (t : Int) < 0 := by omega
  clear hw0 hneg0
  have hx := Boxed.start w 40 #[.slice a1 P.length k1, .slice a2 S.length k2, .slice a3 W.length k3]
  have hxa := hx.alloc (.cells #[.slice none 0 0, .slice none 0 0, .slice none 0 0] 40)
  have D := Blk.new' (w := w.alloc (.cells #[.slice a1 P.length k1, .slice a2 S.length k2, .slice a3 W.length k3] 40)) (t := 40) (cs := #[.slice none 0 0, .slice none 0 0, .slice none 0 0]) (g := w.heap.size + 1) (by simp)
  have c0 := hxa.cell 0
  have c1 := hxa.cell 1
  have c2 := hxa.cell 2
  go_enter Try.func69, Try.ntmps69
  go_wp2_with fail
  refine (l07Is_c _ _ _ P S W _ (hxa.rd hp) (hxa.rd hs) (hxa.rd hq)).mono ?_
  rintro e w0 ⟨rfl, hb⟩
  rw [hc]
  have D1 := D.stays hb
  have hx1 := hxa.trans hb
  clear c0 c1 c2
  have c0 := hx1.cell 0
  have c1 := hx1.cell 1
  have c2 := hx1.cell 2
  go_wp2_with fail
  refine (l08Least_c _ _ _ _ P S W W _ (hx1.rd hp) (hx1.rd hs) (hx1.rd hqq) ⟨_, _, _, rfl⟩ HCL.out hl.out hnum.out).mono ?_
  rintro e w1 ⟨rfl, hb2⟩
  have D1 := D1.stays hb2
  have hz1 : w.heap.size + 2 ≤ w1.heap.size := Nat.le_trans (Nat.le_trans (by simp) hb.size) hb2.size
  have hx1 := hx1.trans hb2
  have heq : leastTo (exL P S W) P.length = usN P S W := rfl
  rw [heq]
  clear heq c0 c1 c2 hb2
  rw [ht]
  have c0 := hx1.cell 0
  have c1 := hx1.cell 1
  have c2 := hx1.cell 2
  go_wp2_with fail
  clear c0 c1 c2
  have hx0 := hx1.trans (Below.refl _ _).drew
  have D0 := D1.stays (Below.refl _ _).drew
  obtain ⟨wd, hwd⟩ : ∃ wd : World, wd = w1.drew := ⟨_, rfl⟩
  have hzd : w.heap.size + 2 ≤ wd.heap.size := by rw [hwd]; exact hz1
  have hxd : Boxed w wd 40 #[.slice a1 P.length k1, .slice a2 S.length k2, .slice a3 W.length k3] := by rw [hwd]; exact hx0
  have Dd : Blk wd (w.heap.size + 1) 40 #[.slice none 0 0, .slice none 0 0, .slice none 0 0] := by rw [hwd]; exact D0
  subst hwd
  have HD : w1.drew.cell? ⟨w.heap.size, 0, none⟩ = some (.slice a1 P.length k1) ∧ w1.drew.cell? ⟨w.heap.size, 1, none⟩ = some (.slice a2 S.length k2) ∧ w1.drew.cell? ⟨w.heap.size, 2, none⟩ = some (.slice a3 W.length k3) := ⟨hx0.cell 0, hx0.cell 1, hx0.cell 2⟩; have HA : ∀ u0 u1 u2 : Value, (w1.drew.alloc (.cells #[u0, u1, u2] 40)).cell? ⟨w.heap.size, 0, none⟩ = some (.slice a1 P.length k1) ∧ (w1.drew.alloc (.cells #[u0, u1, u2] 40)).cell? ⟨w.heap.size, 1, none⟩ = some (.slice a2 S.length k2) ∧ (w1.drew.alloc (.cells #[u0, u1, u2] 40)).cell? ⟨w.heap.size, 2, none⟩ = some (.slice a3 W.length k3) := fun u0 u1 u2 => have h := hx0.alloc (.cells #[u0, u1, u2] 40); ⟨h.cell 0, h.cell 1, h.cell 2⟩
  go_region_held3 (fun w' => w'.cell? ⟨w.heap.size, 0, none⟩ = some (.slice a1 P.length k1) ∧ w'.cell? ⟨w.heap.size, 1, none⟩ = some (.slice a2 S.length k2) ∧ w'.cell? ⟨w.heap.size, 2, none⟩ = some (.slice a3 W.length k3))
    (first | assumption | exact HD | exact HA _ _ _ | exact HE _ _ _)
    (first
      | (go_at_call 176; have hst : Below w1.drew.heap.size w1.drew w1.drew := Below.refl _ _; have hsa : w1.drew.heap.size = w1.drew.heap.size := rfl; (with_reducible refine (l08Step_c _ _ _ _ _ _ _ P S W W t _ (hx0.rd hp) (hx0.rd hs) rfl (hx0.rd hqq) HCL.out hl.out hnum.out htP hneg.out).mono ?_); rintro e v1 ⟨a, k, rfl, ho, hq⟩; have hy1 := hx0.trans hq; have G1 := (D0).stays hq; have hz2 := hq.size; (try have E := Blk.stays E hq); have pL := ho.block; have HD : v1.cell? ⟨w.heap.size, 0, none⟩ = some (.slice a1 P.length k1) ∧ v1.cell? ⟨w.heap.size, 1, none⟩ = some (.slice a2 S.length k2) ∧ v1.cell? ⟨w.heap.size, 2, none⟩ = some (.slice a3 W.length k3) := ⟨hy1.cell 0, hy1.cell 1, hy1.cell 2⟩; have HA : ∀ u0 u1 u2 : Value, (v1.alloc (.cells #[u0, u1, u2] 40)).cell? ⟨w.heap.size, 0, none⟩ = some (.slice a1 P.length k1) ∧ (v1.alloc (.cells #[u0, u1, u2] 40)).cell? ⟨w.heap.size, 1, none⟩ = some (.slice a2 S.length k2) ∧ (v1.alloc (.cells #[u0, u1, u2] 40)).cell? ⟨w.heap.size, 2, none⟩ = some (.slice a3 W.length k3) := fun u0 u1 u2 => have h := hy1.alloc (.cells #[u0, u1, u2] 40); ⟨h.cell 0, h.cell 1, h.cell 2⟩)
      | (go_at_call 163; have hst : Below v1.heap.size v1 v1 := Below.refl _ _; have hsa : v1.heap.size = v1.heap.size := rfl; (with_reducible refine (l07With_c _ _ _ _ _ _ P S W _ (hy1.rd hp) (hy1.rd hs) HCL.out).mono ?_); rintro e v2 ⟨b1, j1, b2, j2, rfl, o1, o2, ap, hq⟩; have hy2 := hy1.trans hq; have G2 := (G1).stays hq; have hz3 := hq.size; (try have E := Blk.stays E hq); have pP := o1.block; have pS := o2.block; have o3 := (ho.below hst (Nat.le_refl _)).below hq (Nat.le_refl _); have HD : v2.cell? ⟨w.heap.size, 0, none⟩ = some (.slice a1 P.length k1) ∧ v2.cell? ⟨w.heap.size, 1, none⟩ = some (.slice a2 S.length k2) ∧ v2.cell? ⟨w.heap.size, 2, none⟩ = some (.slice a3 W.length k3) := ⟨hy2.cell 0, hy2.cell 1, hy2.cell 2⟩; have HA : ∀ u0 u1 u2 : Value, (v2.alloc (.cells #[u0, u1, u2] 40)).cell? ⟨w.heap.size, 0, none⟩ = some (.slice a1 P.length k1) ∧ (v2.alloc (.cells #[u0, u1, u2] 40)).cell? ⟨w.heap.size, 1, none⟩ = some (.slice a2 S.length k2) ∧ (v2.alloc (.cells #[u0, u1, u2] 40)).cell? ⟨w.heap.size, 2, none⟩ = some (.slice a3 W.length k3) := fun u0 u1 u2 => have h := hy2.alloc (.cells #[u0, u1, u2] 40); ⟨h.cell 0, h.cell 1, h.cell 2⟩)
      | (go_at_call 163; have hst : Below v1.heap.size v1 (v1.alloc (.cells #[.slice none 0 0, .slice none 0 0, .slice none 0 0] 40)) := (Below.refl _ _).alloc (Nat.le_refl _) _; have hsa : (v1.alloc (.cells #[.slice none 0 0, .slice none 0 0, .slice none 0 0] 40)).heap.size = v1.heap.size + 1 := (by simp); (with_reducible refine (l07With_c _ _ _ _ _ _ P S W _ ((hy1.alloc (.cells #[.slice none 0 0, .slice none 0 0, .slice none 0 0] 40)).rd hp) ((hy1.alloc (.cells #[.slice none 0 0, .slice none 0 0, .slice none 0 0] 40)).rd hs) HCL.out).mono ?_); rintro e v2 ⟨b1, j1, b2, j2, rfl, o1, o2, ap, hq⟩; have hy2 := (hy1.alloc (.cells #[.slice none 0 0, .slice none 0 0, .slice none 0 0] 40)).trans hq; have G2 := (G1.alloc (.cells #[.slice none 0 0, .slice none 0 0, .slice none 0 0] 40)).stays hq; have hz3 := hq.size; have hN : w.heap.size + 2 ≤ v1.heap.size := (by (first | exact hz1 | omega)); have E := (Blk.new v1 40 #[.slice none 0 0, .slice none 0 0, .slice none 0 0]).stays hq; have pP := o1.block; have pS := o2.block; have o3 := (ho.below hst (Nat.le_refl _)).below hq (Nat.le_refl _); have HD : v2.cell? ⟨w.heap.size, 0, none⟩ = some (.slice a1 P.length k1) ∧ v2.cell? ⟨w.heap.size, 1, none⟩ = some (.slice a2 S.length k2) ∧ v2.cell? ⟨w.heap.size, 2, none⟩ = some (.slice a3 W.length k3) := ⟨hy2.cell 0, hy2.cell 1, hy2.cell 2⟩; have HA : ∀ u0 u1 u2 : Value, (v2.alloc (.cells #[u0, u1, u2] 40)).cell? ⟨w.heap.size, 0, none⟩ = some (.slice a1 P.length k1) ∧ (v2.alloc (.cells #[u0, u1, u2] 40)).cell? ⟨w.heap.size, 1, none⟩ = some (.slice a2 S.length k2) ∧ (v2.alloc (.cells #[u0, u1, u2] 40)).cell? ⟨w.heap.size, 2, none⟩ = some (.slice a3 W.length k3) := fun u0 u1 u2 => have h := hy2.alloc (.cells #[u0, u1, u2] 40); ⟨h.cell 0, h.cell 1, h.cell 2⟩)
      | (go_at_call 162; have hst : Below v2.heap.size v2 v2 := Below.refl _ _; have hsa : v2.heap.size = v2.heap.size := rfl; (with_reducible refine (l07Fit_v fb _ _ _ _ _ _ _ P S (stL P S W t) _ (o1.rd.below hst (Nat.le_refl _)) (o2.rd.below hst (Nat.le_refl _)) (o3.rd.below hst (Nat.le_refl _)) hul.out hwy.out).mono ?_); rintro e v3 ⟨rfl, hq⟩; have hy3 := hy2.trans hq; have G3 := (G2).stays hq; have hz4 := hq.size; (try have E := Blk.stays E hq); have o4 := (o1.below hst (Nat.le_refl _)).below hq (Nat.le_refl _); have o5 := (o2.below hst (Nat.le_refl _)).below hq (Nat.le_refl _); have o6 := (o3.below hst (Nat.le_refl _)).below hq (Nat.le_refl _); have HD : v3.cell? ⟨w.heap.size, 0, none⟩ = some (.slice a1 P.length k1) ∧ v3.cell? ⟨w.heap.size, 1, none⟩ = some (.slice a2 S.length k2) ∧ v3.cell? ⟨w.heap.size, 2, none⟩ = some (.slice a3 W.length k3) := ⟨hy3.cell 0, hy3.cell 1, hy3.cell 2⟩; have HA : ∀ u0 u1 u2 : Value, (v3.alloc (.cells #[u0, u1, u2] 40)).cell? ⟨w.heap.size, 0, none⟩ = some (.slice a1 P.length k1) ∧ (v3.alloc (.cells #[u0, u1, u2] 40)).cell? ⟨w.heap.size, 1, none⟩ = some (.slice a2 S.length k2) ∧ (v3.alloc (.cells #[u0, u1, u2] 40)).cell? ⟨w.heap.size, 2, none⟩ = some (.slice a3 W.length k3) := fun u0 u1 u2 => have h := hy3.alloc (.cells #[u0, u1, u2] 40); ⟨h.cell 0, h.cell 1, h.cell 2⟩; (try have HE := fun u0 u1 u2 => have h := (store3 E G3 hy3 (by omega) (by omega) u0 u1 u2).2.2.1; And.intro (h.cell 0) (And.intro (h.cell 1) (h.cell 2))); (try have r0 := Blk.free E 0); (try have r1 := Blk.free E 1); (try have r2 := Blk.free E 2); (try have s0 := Blk.cell E 0); (try have s1 := Blk.cell E 1); (try have s2 := Blk.cell E 2))
      | (go_at_call 162; have hst : Below v2.heap.size v2 (v2.alloc (.cells #[.slice none 0 0, .slice none 0 0, .slice none 0 0] 40)) := (Below.refl _ _).alloc (Nat.le_refl _) _; have hsa : (v2.alloc (.cells #[.slice none 0 0, .slice none 0 0, .slice none 0 0] 40)).heap.size = v2.heap.size + 1 := (by simp); (with_reducible refine (l07Fit_v fb _ _ _ _ _ _ _ P S (stL P S W t) _ (o1.rd.below hst (Nat.le_refl _)) (o2.rd.below hst (Nat.le_refl _)) (o3.rd.below hst (Nat.le_refl _)) hul.out hwy.out).mono ?_); rintro e v3 ⟨rfl, hq⟩; have hy3 := (hy2.alloc (.cells #[.slice none 0 0, .slice none 0 0, .slice none 0 0] 40)).trans hq; have G3 := (G2.alloc (.cells #[.slice none 0 0, .slice none 0 0, .slice none 0 0] 40)).stays hq; have hz4 := hq.size; have hN : w.heap.size + 2 ≤ v2.heap.size := (by (first | exact hz1 | omega)); have E := (Blk.new v2 40 #[.slice none 0 0, .slice none 0 0, .slice none 0 0]).stays hq; have o4 := (o1.below hst (Nat.le_refl _)).below hq (Nat.le_refl _); have o5 := (o2.below hst (Nat.le_refl _)).below hq (Nat.le_refl _); have o6 := (o3.below hst (Nat.le_refl _)).below hq (Nat.le_refl _); have HD : v3.cell? ⟨w.heap.size, 0, none⟩ = some (.slice a1 P.length k1) ∧ v3.cell? ⟨w.heap.size, 1, none⟩ = some (.slice a2 S.length k2) ∧ v3.cell? ⟨w.heap.size, 2, none⟩ = some (.slice a3 W.length k3) := ⟨hy3.cell 0, hy3.cell 1, hy3.cell 2⟩; have HA : ∀ u0 u1 u2 : Value, (v3.alloc (.cells #[u0, u1, u2] 40)).cell? ⟨w.heap.size, 0, none⟩ = some (.slice a1 P.length k1) ∧ (v3.alloc (.cells #[u0, u1, u2] 40)).cell? ⟨w.heap.size, 1, none⟩ = some (.slice a2 S.length k2) ∧ (v3.alloc (.cells #[u0, u1, u2] 40)).cell? ⟨w.heap.size, 2, none⟩ = some (.slice a3 W.length k3) := fun u0 u1 u2 => have h := hy3.alloc (.cells #[u0, u1, u2] 40); ⟨h.cell 0, h.cell 1, h.cell 2⟩; (try have HE := fun u0 u1 u2 => have h := (store3 E G3 hy3 (by omega) (by omega) u0 u1 u2).2.2.1; And.intro (h.cell 0) (And.intro (h.cell 1) (h.cell 2))); (try have r0 := Blk.free E 0); (try have r1 := Blk.free E 1); (try have r2 := Blk.free E 2); (try have s0 := Blk.cell E 0); (try have s1 := Blk.cell E 1); (try have s2 := Blk.cell E 2))
      | (go_at_call 176; have hsa : (w1.alloc (.cells #[.slice none 0 0, .slice none 0 0, .slice none 0 0] 40)).drew.heap.size = w1.drew.heap.size + 1 := (by simp); (with_reducible refine (l08Step_c _ _ _ _ _ _ _ P S W W t _ (((hx1.alloc (.cells #[.slice none 0 0, .slice none 0 0, .slice none 0 0] 40)).trans (show Below (w1.alloc (.cells #[.slice none 0 0, .slice none 0 0, .slice none 0 0] 40)).heap.size (w1.alloc (.cells #[.slice none 0 0, .slice none 0 0, .slice none 0 0] 40)) (w1.alloc (.cells #[.slice none 0 0, .slice none 0 0, .slice none 0 0] 40)).drew from (Below.refl _ _).drew)).rd hp) (((hx1.alloc (.cells #[.slice none 0 0, .slice none 0 0, .slice none 0 0] 40)).trans (show Below (w1.alloc (.cells #[.slice none 0 0, .slice none 0 0, .slice none 0 0] 40)).heap.size (w1.alloc (.cells #[.slice none 0 0, .slice none 0 0, .slice none 0 0] 40)) (w1.alloc (.cells #[.slice none 0 0, .slice none 0 0, .slice none 0 0] 40)).drew from (Below.refl _ _).drew)).rd hs) rfl (((hx1.alloc (.cells #[.slice none 0 0, .slice none 0 0, .slice none 0 0] 40)).trans (show Below (w1.alloc (.cells #[.slice none 0 0, .slice none 0 0, .slice none 0 0] 40)).heap.size (w1.alloc (.cells #[.slice none 0 0, .slice none 0 0, .slice none 0 0] 40)) (w1.alloc (.cells #[.slice none 0 0, .slice none 0 0, .slice none 0 0] 40)).drew from (Below.refl _ _).drew)).rd hqq) HCL.out hl.out hnum.out htP hneg.out).mono ?_); rintro e v1 ⟨a, k, rfl, ho, hq⟩; have hy1 := ((hx1.alloc (.cells #[.slice none 0 0, .slice none 0 0, .slice none 0 0] 40)).trans (show Below (w1.alloc (.cells #[.slice none 0 0, .slice none 0 0, .slice none 0 0] 40)).heap.size (w1.alloc (.cells #[.slice none 0 0, .slice none 0 0, .slice none 0 0] 40)) (w1.alloc (.cells #[.slice none 0 0, .slice none 0 0, .slice none 0 0] 40)).drew from (Below.refl _ _).drew)).trans hq; have G1 := ((D1.alloc (.cells #[.slice none 0 0, .slice none 0 0, .slice none 0 0] 40)).stays (show Below (w1.alloc (.cells #[.slice none 0 0, .slice none 0 0, .slice none 0 0] 40)).heap.size (w1.alloc (.cells #[.slice none 0 0, .slice none 0 0, .slice none 0 0] 40)) (w1.alloc (.cells #[.slice none 0 0, .slice none 0 0, .slice none 0 0] 40)).drew from (Below.refl _ _).drew)).stays hq; have hz2 := hq.size; have hN : w.heap.size + 2 ≤ w1.drew.heap.size := (by (first | exact hz1 | omega)); have E := ((Blk.new w1 40 #[.slice none 0 0, .slice none 0 0, .slice none 0 0]).stays (show Below (w1.alloc (.cells #[.slice none 0 0, .slice none 0 0, .slice none 0 0] 40)).heap.size (w1.alloc (.cells #[.slice none 0 0, .slice none 0 0, .slice none 0 0] 40)) (w1.alloc (.cells #[.slice none 0 0, .slice none 0 0, .slice none 0 0] 40)).drew from (Below.refl _ _).drew)).stays hq; have pL := ho.block; have HD : v1.cell? ⟨w.heap.size, 0, none⟩ = some (.slice a1 P.length k1) ∧ v1.cell? ⟨w.heap.size, 1, none⟩ = some (.slice a2 S.length k2) ∧ v1.cell? ⟨w.heap.size, 2, none⟩ = some (.slice a3 W.length k3) := ⟨hy1.cell 0, hy1.cell 1, hy1.cell 2⟩; have HA : ∀ u0 u1 u2 : Value, (v1.alloc (.cells #[u0, u1, u2] 40)).cell? ⟨w.heap.size, 0, none⟩ = some (.slice a1 P.length k1) ∧ (v1.alloc (.cells #[u0, u1, u2] 40)).cell? ⟨w.heap.size, 1, none⟩ = some (.slice a2 S.length k2) ∧ (v1.alloc (.cells #[u0, u1, u2] 40)).cell? ⟨w.heap.size, 2, none⟩ = some (.slice a3 W.length k3) := fun u0 u1 u2 => have h := hy1.alloc (.cells #[u0, u1, u2] 40); ⟨h.cell 0, h.cell 1, h.cell 2⟩))
  · have hdr : w1.drew.heap.size = w1.heap.size := rfl
    have E5 := Blk.new v3 40 #[.slice (oA fb b1) (oN fb P.length) (oN fb j1), .slice (oA fb b2) (oN fb S.length) (oN fb j2), .slice (oA fb a) (oN fb P.length) (oN fb k)]
    have D5 := G3.alloc (.cells #[.slice (oA fb b1) (oN fb P.length) (oN fb j1), .slice (oA fb b2) (oN fb S.length) (oN fb j2), .slice (oA fb a) (oN fb P.length) (oN fb k)] 40)
    have hx5 := hy3.alloc (.cells #[.slice (oA fb b1) (oN fb P.length) (oN fb j1), .slice (oA fb b2) (oN fb S.length) (oN fb j2), .slice (oA fb a) (oN fb P.length) (oN fb k)] 40)
    have hk5 : Keeps (fun k => k = v3.heap.size) v3 (v3.alloc (.cells #[.slice (oA fb b1) (oN fb P.length) (oN fb j1), .slice (oA fb b2) (oN fb S.length) (oN fb j2), .slice (oA fb a) (oN fb P.length) (oN fb k)] 40)) := Keeps.of_below ((Below.refl _ _).alloc (Nat.le_refl _) _)
    have o7 := o4.below (show Below v3.heap.size v3 (v3.alloc (.cells #[.slice (oA fb b1) (oN fb P.length) (oN fb j1), .slice (oA fb b2) (oN fb S.length) (oN fb j2), .slice (oA fb a) (oN fb P.length) (oN fb k)] 40)) from (Below.refl _ _).alloc (Nat.le_refl _) _) (Nat.le_refl _)
    have o8 := o5.below (show Below v3.heap.size v3 (v3.alloc (.cells #[.slice (oA fb b1) (oN fb P.length) (oN fb j1), .slice (oA fb b2) (oN fb S.length) (oN fb j2), .slice (oA fb a) (oN fb P.length) (oN fb k)] 40)) from (Below.refl _ _).alloc (Nat.le_refl _) _) (Nat.le_refl _)
    have o9 := o6.below (show Below v3.heap.size v3 (v3.alloc (.cells #[.slice (oA fb b1) (oN fb P.length) (oN fb j1), .slice (oA fb b2) (oN fb S.length) (oN fb j2), .slice (oA fb a) (oN fb P.length) (oN fb k)] 40)) from (Below.refl _ _).alloc (Nat.le_refl _) _) (Nat.le_refl _)
    generalize hw5 : (v3.alloc (.cells #[.slice (oA fb b1) (oN fb P.length) (oN fb j1), .slice (oA fb b2) (oN fb S.length) (oN fb j2), .slice (oA fb a) (oN fb P.length) (oN fb k)] 40)) = w5 at E5 D5 hx5 hk5 o7 o8 o9 ⊢
    clear hw5
    have ho5 : Own3 2 w5 w1.heap.size (.slice (oA fb b1) (oN fb P.length) (oN fb j1)) (.slice (oA fb b2) (oN fb S.length) (oN fb j2)) (.slice (oA fb a) (oN fb P.length) (oN fb k)) (okL fb P) (okL fb S) (okL fb (stL P S W t)) := own3_fit fb ⟨o7.base_le (by omega), o8.base_le (by omega), o9.base_le (by omega), ap, fun k h1 h2 => by have := pP k h1; have := pL k h2; omega, fun k h1 h2 => by have := pS k h1; have := pL k h2; omega⟩
    have g0 : w5.cell? ⟨v3.heap.size, 0, none⟩ = some (.slice (oA fb b1) (oN fb P.length) (oN fb j1)) := by have := E5.cell 0; simpa using this
    have g1 : w5.cell? ⟨v3.heap.size, 1, none⟩ = some (.slice (oA fb b2) (oN fb S.length) (oN fb j2)) := by have := E5.cell 1; simpa using this
    have g2 : w5.cell? ⟨v3.heap.size, 2, none⟩ = some (.slice (oA fb a) (oN fb P.length) (oN fb k)) := by have := E5.cell 2; simpa using this
    have f0 := D5.free 0
    have f1 := D5.free 1
    have f2 := D5.free 2
    have e0 := D5.cell 0
    have e1 := D5.cell 1
    have e2 := D5.cell 2
    go_wp2
    have F := ((D5.set 0 (.slice (oA fb b1) (oN fb P.length) (oN fb j1))).set 1 (.slice (oA fb b2) (oN fb S.length) (oN fb j2))).set 2 (.slice (oA fb a) (oN fb P.length) (oN fb k))
    have q0 := F.cell 0
    have q1 := F.cell 1
    have q2 := F.cell 2
    have hK : Keeps (fun k => k = w.heap.size + 1) w5 (((w5.setCell ⟨w.heap.size + 1, 0, none⟩ (.slice (oA fb b1) (oN fb P.length) (oN fb j1))).setCell ⟨w.heap.size + 1, 1, none⟩ (.slice (oA fb b2) (oN fb S.length) (oN fb j2))).setCell ⟨w.heap.size + 1, 2, none⟩ (.slice (oA fb a) (oN fb P.length) (oN fb k))) := ((((Keeps.refl (fun k => k = w.heap.size + 1) w5).setCell (p := ⟨w.heap.size + 1, 0, none⟩) rfl _).setCell (p := ⟨w.heap.size + 1, 1, none⟩) rfl _).setCell (p := ⟨w.heap.size + 1, 2, none⟩) rfl _)
    refine bodyPost_ret (v := .tuple #[.agg #[.slice (oA fb b1) (oN fb P.length) (oN fb j1), .slice (oA fb b2) (oN fb S.length) (oN fb j2), .slice (oA fb a) (oN fb P.length) (oN fb k)], .int .i64 (okC fb 3)]) (by simp [results, Try.results69, go_sem, q0, q1, q2]) rfl (retCC_fit (hul.out) ?_ ?_)
    · exact (ho5.keeps hK (fun k hk e => by have := (ho5.block k hk).1; omega)).base_le (by omega)
    · exact hx5.below.trans (hK.below (by have := hx5.size; omega) (fun k hk => by omega))
  · have hdr : w1.drew.heap.size = w1.heap.size := rfl
    obtain ⟨E5, D5, hx5, hk5⟩ := store3 E G3 hy3 (by omega) (by omega) (.slice (oA fb b1) (oN fb P.length) (oN fb j1)) (.slice (oA fb b2) (oN fb S.length) (oN fb j2)) (.slice (oA fb a) (oN fb P.length) (oN fb k))
    have o7 := o4.keeps hk5 (fun k hk e => by have := pP k hk; omega)
    have o8 := o5.keeps hk5 (fun k hk e => by have := pS k hk; omega)
    have o9 := o6.keeps hk5 (fun k hk e => by have := pL k hk; omega)
    generalize hw5 : (((v3.setCell ⟨v2.heap.size, 0, none⟩ (.slice (oA fb b1) (oN fb P.length) (oN fb j1))).setCell ⟨v2.heap.size, 1, none⟩ (.slice (oA fb b2) (oN fb S.length) (oN fb j2))).setCell ⟨v2.heap.size, 2, none⟩ (.slice (oA fb a) (oN fb P.length) (oN fb k))) = w5 at E5 D5 hx5 hk5 o7 o8 o9 ⊢
    clear hw5
    have ho5 : Own3 2 w5 w1.heap.size (.slice (oA fb b1) (oN fb P.length) (oN fb j1)) (.slice (oA fb b2) (oN fb S.length) (oN fb j2)) (.slice (oA fb a) (oN fb P.length) (oN fb k)) (okL fb P) (okL fb S) (okL fb (stL P S W t)) := own3_fit fb ⟨o7.base_le (by omega), o8.base_le (by omega), o9.base_le (by omega), ap, fun k h1 h2 => by have := pP k h1; have := pL k h2; omega, fun k h1 h2 => by have := pS k h1; have := pL k h2; omega⟩
    have g0 : w5.cell? ⟨v2.heap.size, 0, none⟩ = some (.slice (oA fb b1) (oN fb P.length) (oN fb j1)) := by have := E5.cell 0; simpa using this
    have g1 : w5.cell? ⟨v2.heap.size, 1, none⟩ = some (.slice (oA fb b2) (oN fb S.length) (oN fb j2)) := by have := E5.cell 1; simpa using this
    have g2 : w5.cell? ⟨v2.heap.size, 2, none⟩ = some (.slice (oA fb a) (oN fb P.length) (oN fb k)) := by have := E5.cell 2; simpa using this
    have f0 := D5.free 0
    have f1 := D5.free 1
    have f2 := D5.free 2
    have e0 := D5.cell 0
    have e1 := D5.cell 1
    have e2 := D5.cell 2
    go_wp2
    have F := ((D5.set 0 (.slice (oA fb b1) (oN fb P.length) (oN fb j1))).set 1 (.slice (oA fb b2) (oN fb S.length) (oN fb j2))).set 2 (.slice (oA fb a) (oN fb P.length) (oN fb k))
    have q0 := F.cell 0
    have q1 := F.cell 1
    have q2 := F.cell 2
    have hK : Keeps (fun k => k = w.heap.size + 1) w5 (((w5.setCell ⟨w.heap.size + 1, 0, none⟩ (.slice (oA fb b1) (oN fb P.length) (oN fb j1))).setCell ⟨w.heap.size + 1, 1, none⟩ (.slice (oA fb b2) (oN fb S.length) (oN fb j2))).setCell ⟨w.heap.size + 1, 2, none⟩ (.slice (oA fb a) (oN fb P.length) (oN fb k))) := ((((Keeps.refl (fun k => k = w.heap.size + 1) w5).setCell (p := ⟨w.heap.size + 1, 0, none⟩) rfl _).setCell (p := ⟨w.heap.size + 1, 1, none⟩) rfl _).setCell (p := ⟨w.heap.size + 1, 2, none⟩) rfl _)
    refine bodyPost_ret (v := .tuple #[.agg #[.slice (oA fb b1) (oN fb P.length) (oN fb j1), .slice (oA fb b2) (oN fb S.length) (oN fb j2), .slice (oA fb a) (oN fb P.length) (oN fb k)], .int .i64 (okC fb 3)]) (by simp [results, Try.results69, go_sem, q0, q1, q2]) rfl (retCC_fit (hul.out) ?_ ?_)
    · exact (ho5.keeps hK (fun k hk e => by have := (ho5.block k hk).1; omega)).base_le (by omega)
    · exact hx5.below.trans (hK.below (by have := hx5.size; omega) (fun k hk => by omega))
  · have hdr : w1.drew.heap.size = w1.heap.size := rfl
    obtain ⟨E5, D5, hx5, hk5⟩ := store3 E G3 hy3 (by omega) (by omega) (.slice (oA fb b1) (oN fb P.length) (oN fb j1)) (.slice (oA fb b2) (oN fb S.length) (oN fb j2)) (.slice (oA fb a) (oN fb P.length) (oN fb k))
    have o7 := o4.keeps hk5 (fun k hk e => by have := pP k hk; omega)
    have o8 := o5.keeps hk5 (fun k hk e => by have := pS k hk; omega)
    have o9 := o6.keeps hk5 (fun k hk e => by have := pL k hk; omega)
    generalize hw5 : (((v3.setCell ⟨v1.heap.size, 0, none⟩ (.slice (oA fb b1) (oN fb P.length) (oN fb j1))).setCell ⟨v1.heap.size, 1, none⟩ (.slice (oA fb b2) (oN fb S.length) (oN fb j2))).setCell ⟨v1.heap.size, 2, none⟩ (.slice (oA fb a) (oN fb P.length) (oN fb k))) = w5 at E5 D5 hx5 hk5 o7 o8 o9 ⊢
    clear hw5
    have ho5 : Own3 2 w5 w1.heap.size (.slice (oA fb b1) (oN fb P.length) (oN fb j1)) (.slice (oA fb b2) (oN fb S.length) (oN fb j2)) (.slice (oA fb a) (oN fb P.length) (oN fb k)) (okL fb P) (okL fb S) (okL fb (stL P S W t)) := own3_fit fb ⟨o7.base_le (by omega), o8.base_le (by omega), o9.base_le (by omega), ap, fun k h1 h2 => by have := pP k h1; have := pL k h2; omega, fun k h1 h2 => by have := pS k h1; have := pL k h2; omega⟩
    have g0 : w5.cell? ⟨v1.heap.size, 0, none⟩ = some (.slice (oA fb b1) (oN fb P.length) (oN fb j1)) := by have := E5.cell 0; simpa using this
    have g1 : w5.cell? ⟨v1.heap.size, 1, none⟩ = some (.slice (oA fb b2) (oN fb S.length) (oN fb j2)) := by have := E5.cell 1; simpa using this
    have g2 : w5.cell? ⟨v1.heap.size, 2, none⟩ = some (.slice (oA fb a) (oN fb P.length) (oN fb k)) := by have := E5.cell 2; simpa using this
    have f0 := D5.free 0
    have f1 := D5.free 1
    have f2 := D5.free 2
    have e0 := D5.cell 0
    have e1 := D5.cell 1
    have e2 := D5.cell 2
    go_wp2
    have F := ((D5.set 0 (.slice (oA fb b1) (oN fb P.length) (oN fb j1))).set 1 (.slice (oA fb b2) (oN fb S.length) (oN fb j2))).set 2 (.slice (oA fb a) (oN fb P.length) (oN fb k))
    have q0 := F.cell 0
    have q1 := F.cell 1
    have q2 := F.cell 2
    have hK : Keeps (fun k => k = w.heap.size + 1) w5 (((w5.setCell ⟨w.heap.size + 1, 0, none⟩ (.slice (oA fb b1) (oN fb P.length) (oN fb j1))).setCell ⟨w.heap.size + 1, 1, none⟩ (.slice (oA fb b2) (oN fb S.length) (oN fb j2))).setCell ⟨w.heap.size + 1, 2, none⟩ (.slice (oA fb a) (oN fb P.length) (oN fb k))) := ((((Keeps.refl (fun k => k = w.heap.size + 1) w5).setCell (p := ⟨w.heap.size + 1, 0, none⟩) rfl _).setCell (p := ⟨w.heap.size + 1, 1, none⟩) rfl _).setCell (p := ⟨w.heap.size + 1, 2, none⟩) rfl _)
    refine bodyPost_ret (v := .tuple #[.agg #[.slice (oA fb b1) (oN fb P.length) (oN fb j1), .slice (oA fb b2) (oN fb S.length) (oN fb j2), .slice (oA fb a) (oN fb P.length) (oN fb k)], .int .i64 (okC fb 3)]) (by simp [results, Try.results69, go_sem, q0, q1, q2]) rfl (retCC_fit (hul.out) ?_ ?_)
    · exact (ho5.keeps hK (fun k hk e => by have := (ho5.block k hk).1; omega)).base_le (by omega)
    · exact hx5.below.trans (hK.below (by have := hx5.size; omega) (fun k hk => by omega))
  · have hdr : w1.drew.heap.size = w1.heap.size := rfl
    obtain ⟨E5, D5, hx5, hk5⟩ := store3 E G3 hy3 (by omega) (by omega) (.slice (oA fb b1) (oN fb P.length) (oN fb j1)) (.slice (oA fb b2) (oN fb S.length) (oN fb j2)) (.slice (oA fb a) (oN fb P.length) (oN fb k))
    have o7 := o4.keeps hk5 (fun k hk e => by have := pP k hk; omega)
    have o8 := o5.keeps hk5 (fun k hk e => by have := pS k hk; omega)
    have o9 := o6.keeps hk5 (fun k hk e => by have := pL k hk; omega)
    generalize hw5 : (((v3.setCell ⟨w1.heap.size, 0, none⟩ (.slice (oA fb b1) (oN fb P.length) (oN fb j1))).setCell ⟨w1.heap.size, 1, none⟩ (.slice (oA fb b2) (oN fb S.length) (oN fb j2))).setCell ⟨w1.heap.size, 2, none⟩ (.slice (oA fb a) (oN fb P.length) (oN fb k))) = w5 at E5 D5 hx5 hk5 o7 o8 o9 ⊢
    clear hw5
    have ho5 : Own3 2 w5 w1.heap.size (.slice (oA fb b1) (oN fb P.length) (oN fb j1)) (.slice (oA fb b2) (oN fb S.length) (oN fb j2)) (.slice (oA fb a) (oN fb P.length) (oN fb k)) (okL fb P) (okL fb S) (okL fb (stL P S W t)) := own3_fit fb ⟨o7.base_le (by omega), o8.base_le (by omega), o9.base_le (by omega), ap, fun k h1 h2 => by have := pP k h1; have := pL k h2; omega, fun k h1 h2 => by have := pS k h1; have := pL k h2; omega⟩
    have g0 : w5.cell? ⟨w1.heap.size, 0, none⟩ = some (.slice (oA fb b1) (oN fb P.length) (oN fb j1)) := by have := E5.cell 0; simpa using this
    have g1 : w5.cell? ⟨w1.heap.size, 1, none⟩ = some (.slice (oA fb b2) (oN fb S.length) (oN fb j2)) := by have := E5.cell 1; simpa using this
    have g2 : w5.cell? ⟨w1.heap.size, 2, none⟩ = some (.slice (oA fb a) (oN fb P.length) (oN fb k)) := by have := E5.cell 2; simpa using this
    have f0 := D5.free 0
    have f1 := D5.free 1
    have f2 := D5.free 2
    have e0 := D5.cell 0
    have e1 := D5.cell 1
    have e2 := D5.cell 2
    go_wp2
    have F := ((D5.set 0 (.slice (oA fb b1) (oN fb P.length) (oN fb j1))).set 1 (.slice (oA fb b2) (oN fb S.length) (oN fb j2))).set 2 (.slice (oA fb a) (oN fb P.length) (oN fb k))
    have q0 := F.cell 0
    have q1 := F.cell 1
    have q2 := F.cell 2
    have hK : Keeps (fun k => k = w.heap.size + 1) w5 (((w5.setCell ⟨w.heap.size + 1, 0, none⟩ (.slice (oA fb b1) (oN fb P.length) (oN fb j1))).setCell ⟨w.heap.size + 1, 1, none⟩ (.slice (oA fb b2) (oN fb S.length) (oN fb j2))).setCell ⟨w.heap.size + 1, 2, none⟩ (.slice (oA fb a) (oN fb P.length) (oN fb k))) := ((((Keeps.refl (fun k => k = w.heap.size + 1) w5).setCell (p := ⟨w.heap.size + 1, 0, none⟩) rfl _).setCell (p := ⟨w.heap.size + 1, 1, none⟩) rfl _).setCell (p := ⟨w.heap.size + 1, 2, none⟩) rfl _)
    refine bodyPost_ret (v := .tuple #[.agg #[.slice (oA fb b1) (oN fb P.length) (oN fb j1), .slice (oA fb b2) (oN fb S.length) (oN fb j2), .slice (oA fb a) (oN fb P.length) (oN fb k)], .int .i64 (okC fb 3)]) (by simp [results, Try.results69, go_sem, q0, q1, q2]) rfl (retCC_fit (hul.out) ?_ ?_)
    · exact (ho5.keeps hK (fun k hk e => by have := (ho5.block k hk).1; omega)).base_le (by omega)
    · exact hx5.below.trans (hK.below (by have := hx5.size; omega) (fun k hk => by omega))

theorem implUS_c (p s q : Value) (P S W : List Int) (w : World) (hp : Rd w p P) (hs : Rd w s S) (hq : Rd w q W) :
    Calls Try.prog 68 #[.agg #[p, s, q]] w (RetCC w (okL (usB P S W) P) (okL (usB P S W) S) (okL (usB P S W) (usL P S W)) (usC P S W)) := by
  cases hc : cluB P S W
  · obtain ⟨e1, e2⟩ := usB_1 hc
    rw [e1, e2]
    exact implUS_1 p s q P S W w hp hs hq hc
  · by_cases hn : 0 ≤ usN P S W
    · obtain ⟨e1, e2⟩ := usB_3 hc hn
      rw [e1, e2]
      exact implUS_3 p s q P S W w hp hs hq hc hn
    · obtain ⟨e1, e2⟩ := usB_2 hc hn
      rw [e1, e2]
      exact implUS_2 p s q P S W w hp hs hq hc hn
theorem specUS_c (p s q : Value) (P S W : List Int) (w : World) (hp : Rd w p P) (hs : Rd w s S) (hq : Rd w q W) :
    Calls Try.prog 69 #[.agg #[p, s, q]] w (RetCC w (okL (usB P S W) P) (okL (usB P S W) S) (okL (usB P S W) (usL P S W)) (usC P S W)) := by
  cases hc : cluB P S W
  · obtain ⟨e1, e2⟩ := usB_1 hc
    rw [e1, e2]
    exact specUS_1 p s q P S W w hp hs hq hc
  · by_cases hn : 0 ≤ usN P S W
    · obtain ⟨e1, e2⟩ := usB_3 hc hn
      rw [e1, e2]
      obtain ⟨t, ht⟩ := Int.eq_ofNat_of_zero_le hn
      have e : usL P S W = stL P S W t := by unfold usL; rw [ht]; rfl
      rw [e]
      exact specUS_3 p s q P S W w hp hs hq _ t hc ht (cluB_with (cluB_iff.1 hc) (stL_len _ _ _ _))
    · obtain ⟨e1, e2⟩ := usB_2 hc hn
      rw [e1, e2]
      exact specUS_2 p s q P S W w hp hs hq hc hn
end Go.Proofs.Ytiinceflafigeaa
