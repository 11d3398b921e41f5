/- Contract: impl.curvetteMultiplicities. -/
import Derived.Test.YtiinceflafigeaaEuProx
import Derived.Test.YtiinceflafigeaaDivP
import Derived.Test.YtiinceflafigeaaPtP
namespace Go.Proofs.Ytiinceflafigeaa
open Go.RowKit

/-- A list and a truth. -/
def RetK (w : World) (xs : List Int) (b : Bool) (e : Ending) (w' : World) : Prop :=
  ∃ a k, e = .returned (.tuple #[.slice a xs.length k, .bool b]) ∧ OwnI w' w.heap.size (.slice a xs.length k) xs ∧ Below w.heap.size w w'
theorem retK_nil {w w' : World} (hb : Below w.heap.size w w') : RetK w [] false (.returned (.tuple #[.slice none 0 0, .bool false])) w' := ⟨none, 0, rfl, own_nil _ _ _, hb⟩

set_option maxRecDepth 100000 in
set_option maxHeartbeats 4000000 in
theorem curvetteMultiplicities_c (v : Value) (K : List Int) (w : World) (h : Rd w v K) (hK : KOk K) :
    Calls Try.prog 107 #[v] w (RetK w (cuL K) (cuB K)) := by
  obtain ⟨i0, hi, hz0, hz1, hz2⟩ := info_parts Try.infoI
  obtain ⟨a, cap, rfl, hcap1, hcap2, hrd⟩ := h
  have hlen := hK.1
  obtain ⟨n, hn⟩ : ∃ n, K.length = n := ⟨_, rfl⟩
  rw [hn] at hcap1 hrd hlen ⊢
  have hmk : ∀ W : World, (Instr.makeSlice 24 (.int .i64 ((n : Int) + 1)) (.int .i64 ((n : Int) + 1))).run Try.prog W = .ok (.slice (some ⟨W.heap.size, 0, none⟩) (n + 1) (n + 1)) (W.alloc (.cells (madeCells #[.int .i64 0] (n + 1)) 2)) := fun W => run_make_row 24 2 i0 _ Try.underlying24 hi hz0 hz1 rfl .i64 .i64 (n + 1) (by rw [hz2]; omega) (by omega) W
  have hal : Below w.heap.size w (w.alloc (.cells (madeCells #[.int .i64 0] (n + 1)) 2)) := (Below.refl _ _).alloc (Nat.le_refl _) _
  have hE0 := ownI_made (w := w.alloc (.cells (madeCells #[.int .i64 0] (n + 1)) 2)) (e := 2) (base := w.heap.size) (g := w.heap.size) (n := n + 1) (Blk.new w _ _) (Nat.le_refl _) (by unfold maxLen; omega)
  have hE1 := Own.set (xs := List.replicate (n + 1) 0) (by rw [List.length_replicate]; exact hE0) n 1
  have hb1 := hal.setCell (p := ⟨w.heap.size, n, none⟩) (Nat.le_refl _) (.int .i64 1)
  have c0 := Own.cell (xs := List.replicate (n + 1) 0) (by rw [List.length_replicate]; exact hE0) n (by simp)
  have f0 := Own.free (xs := List.replicate (n + 1) 0) (by rw [List.length_replicate]; exact hE0) n
  rw [List.length_replicate, ← hn, cuAt_zero_eq, hn] at hE1
  have H1 := Lib.hid hE1
  have H2 := Lib.hid hb1
  have HN := Lib.hid hn
  clear hn hE0 hE1 hb1 hal
  go_enter Try.func107, Try.ntmps107
  go_wp2_with fail
  go_loopw [5, 6] (fun jv _ wr => ∃ t : Nat, t ≤ n ∧ jv = .int .i64 ((n : Int) - t) ∧ cuGo K t ∧ OwnI wr w.heap.size (.slice (some ⟨w.heap.size, 0, none⟩) (n + 1) (n + 1)) (cuAt K t) ∧ Below w.heap.size w wr) (fun jv _ _ => (intOf jv).toNat)
  case atStart => exact ⟨0, Nat.zero_le _, by simp, fun s hs => by omega, by have := H1.out; rw [World.setCell_alloc_at _ _ _ _ _ rfl] at this; exact this, by have := H2.out; rw [World.setCell_alloc_at _ _ _ _ _ rfl] at this; exact this⟩
  case round =>
    obtain ⟨t, ht, rfl, hgo, hO, hbl⟩ := hrel
    clear c0 f0 hmk
    obtain ⟨wo, rfl⟩ : ∃ wo : World, wo = wr := ⟨_, rfl⟩
    have hbd := cuAt_bd hK t (by rw [HN.out]; exact ht) hgo
    have hln := cuAt_len K t
    have hsz := hbl.size
    rw [HN.out] at hln
    by_cases hlt : t < n
    · obtain ⟨q, hq⟩ : ∃ q, n - t = q + 1 := ⟨n - t - 1, by omega⟩
      have hqi : (n : Int) - t = (q : Int) + 1 := by omega
      have hqn : q < n := by omega
      rw [hqi]
      have hO2 : OwnI wo w.heap.size (.slice (some ⟨w.heap.size, 0, none⟩) (cuAt K t).length (n + 1)) (cuAt K t) := by rw [hln]; exact hO
      have dx := hO2.cell (q + 1) (by omega)
      have dy := hO2.cell q (by omega)
      have fy := hO2.free q
      have hset := hO2.set q (gI (cuAt K t) q + gI (cuAt K t) (q + 1))
      have bx := hbd (q + 1)
      have by' := hbd q
      by_cases hx : gI (cuAt K t) (q + 1) ≤ 64
      · have hgo1 := cuGo_succ hgo (by rw [HN.out, hq]; exact hx)
        have hK1 := hK.2 q (by rw [HN.out]; exact hqn)
        obtain ⟨b, off, rfl, hb, hc⟩ := hrd (by intro e; have h1 := HN.out; rw [e] at h1; simp at h1; omega)
        have dK : wo.cell? ⟨b, off + q, none⟩ = some (.int .i64 (gI K q)) := by rw [hbl.cell (p := ⟨b, off + q, none⟩) hb]; exact hc q hqn
        have hbs := hbl.setCell (p := ⟨w.heap.size, q, none⟩) (Nat.le_refl _) (.int .i64 (gI (cuAt K t) q + gI (cuAt K t) (q + 1)))
        have dK1 : (wo.setCell ⟨w.heap.size, q, none⟩ (.int .i64 (gI (cuAt K t) q + gI (cuAt K t) (q + 1)))).cell? ⟨b, off + q, none⟩ = some (.int .i64 (gI K q)) := by rw [hbs.cell (p := ⟨b, off + q, none⟩) hb]; exact hc q hqn
        have HL1 : Hid ((cuAt K t).set q (gI (cuAt K t) q + gI (cuAt K t) (q + 1)) = bump (cuAt K t) q (gI (cuAt K t) (q + 1))) := Lib.hid rfl
        rw [HL1.out] at hset
        have HS := Lib.hid hset
        have HBS := Lib.hid hbs
        have HDK := Lib.hid dK1
        have HX := Lib.hid hx
        have wxy : IntKind.i64.wrap (gI (cuAt K t) q + gI (cuAt K t) (q + 1)) = gI (cuAt K t) q + gI (cuAt K t) (q + 1) := IntWalk.i64_in _ (by omega)
        have f1 : (q : Int) + 1 - 1 = (q : Int) := by omega
        have f2 : IntKind.i64.wrap (q : Int) = (q : Int) := IntWalk.i64_in _ (by omega)
        have f3 : (0 : Int) ≤ (q : Int) := by omega
        have f4 : (q : Int) < ((n + 1 : Nat) : Int) := by omega
        have f5 : (q : Int) < (n : Int) + 1 := by omega
        have f6 : ((q : Int) + 1).toNat = q + 1 := by omega
        have f7 : (0 : Int) ≤ (q : Int) + 1 := by omega
        have f8 : (q : Int) + 1 < (n : Int) + 1 := by omega
        have f9 : (q : Int) < (n : Int) := by omega
        have fx : ¬ 64 < gI (cuAt K t) (q + 1) := by omega
        have hbdr : ∀ i, 0 ≤ gI (cuAt K t) i ∧ gI (cuAt K t) i ≤ 100000 := fun i => by have := hbd i; omega
        clear hset hbs hbd hO hO2 hrd hc hgo dK1 hx hqi
        generalize hxx : gI (cuAt K t) (q + 1) = x at *
        generalize hyy : gI (cuAt K t) q = y at *
        go_wp2_with fail
        go_region
        have hKl : K.length - t = q + 1 := by rw [HN.out]; exact hq
        generalize wo.setCell ⟨w.heap.size, q, none⟩ (.int .i64 (y + x)) = W1 at *
        have hO1 := HS.out
        have hB1 := HBS.out
        have dK1 := HDK.out
        have hd1 : Below W1.heap.size W1 W1.drew := (Below.refl _ _).drew
        clear dx dy fy dK wxy
        by_cases hz : gI K q = 0
        · have HT : Hid (cuAt K (t + 1) = bump (cuAt K t) q x) := Lib.hid (by rw [cuAt_succ_zero (by rw [hKl]; exact hz), hKl, hxx]; rfl)
          have hO3 : OwnI W1 w.heap.size (.slice (some ⟨w.heap.size, 0, none⟩) (n + 1) (n + 1)) (cuAt K (t + 1)) := by rw [HT.out]; rw [hln] at hO1; exact hO1
          have H3 := Lib.hid (hO3.below hd1 (Nat.le_refl _))
          have H4 := Lib.hid (hB1.trans (hd1.mono hB1.size))
          rw [hz] at dK1
          clear hO1 hO3 hB1 HT hxx hyy hd1
          go_wp2
          go_roundw
          case rel => exact ⟨t + 1, by omega, by congr 1; omega, hgo1, H3.out, H4.out⟩
          case measure => simp [intOf]
        · obtain ⟨d, hd⟩ := Int.eq_ofNat_of_zero_le hK1.1
          obtain ⟨r, hr⟩ : ∃ r, q + 1 - d = r := ⟨_, rfl⟩
          have hd0 : 0 < d := by omega
          have hdq : d ≤ q + 1 := by omega
          have hri : (q : Int) + 1 - (d : Int) = (r : Int) := by omega
          have hrn : r ≤ q := by omega
          have hO1' : OwnI W1 w.heap.size (.slice (some ⟨w.heap.size, 0, none⟩) (bump (cuAt K t) q x).length (n + 1)) (bump (cuAt K t) q x) := by rw [bump_len]; exact hO1
          have cz := hO1'.cell r (by rw [bump_len]; omega)
          have cx := hO1'.cell (q + 1) (by rw [bump_len]; omega)
          rw [gI_bump (by omega), if_neg (by omega), hxx] at cx
          have fz := hO1'.free r
          have bz : 0 ≤ gI (bump (cuAt K t) q x) r ∧ gI (bump (cuAt K t) q x) r ≤ 1000000 := by
            rw [gI_bump (by omega)]
            split
            · rw [hyy]; omega
            · have := hbdr r; omega
          have HT : Hid (cuAt K (t + 1) = bump (bump (cuAt K t) q x) r x) := Lib.hid (by rw [cuAt_succ_two (by rw [hKl]; exact hz), hKl, hxx, Nat.add_sub_cancel, hd, ← hr]; rfl)
          have hs2 := hO1'.set r (gI (bump (cuAt K t) q x) r + x)
          have hb2 := hB1.setCell (p := ⟨w.heap.size, r, none⟩) (Nat.le_refl _) (.int .i64 (gI (bump (cuAt K t) q x) r + x))
          have hs3 : OwnI (W1.setCell ⟨w.heap.size, r, none⟩ (.int .i64 (gI (bump (cuAt K t) q x) r + x))) w.heap.size (.slice (some ⟨w.heap.size, 0, none⟩) (n + 1) (n + 1)) (cuAt K (t + 1)) := by rw [HT.out]; rw [bump_len, hln] at hs2; exact hs2
          have H3 := Lib.hid hs3
          have H4 := Lib.hid hb2
          have HR := Lib.hid hri
          have wzx : IntKind.i64.wrap (gI (bump (cuAt K t) q x) r + x) = gI (bump (cuAt K t) q x) r + x := IntWalk.i64_in _ (by omega)
          have hw2 : IntKind.i64.wrap ((q : Int) + 1 - (d : Int)) = (r : Int) := by rw [hri]; exact IntWalk.i64_in _ (by omega)
          have hw3 : IntKind.i64.wrap (r : Int) = (r : Int) := IntWalk.i64_in _ (by omega)
          have g1 : (0 : Int) ≤ (r : Int) := by omega
          have g2 : (r : Int) < (n : Int) + 1 := by omega
          have g3 : ¬ (d : Int) = 0 := by omega
          have g4 : ((d : Int) != 0) = true := bne_iff_ne.2 g3
          have g5 : ¬ d = 0 := by omega
          rw [hd] at dK1
          clear hO1 hO1' hB1 HT hxx hyy hd1 hs2 hb2 hs3 hbdr hd hr
          generalize gI (bump (cuAt K t) q x) r = z at *
          go_wp2_with fail
          go_region
          go_wp2
          go_roundw
          case rel => exact ⟨t + 1, by omega, by congr 1; omega, hgo1, H3.out.below (B := (W1.setCell ⟨w.heap.size, r, none⟩ (.int .i64 (z + x))).heap.size) (Below.refl _ _).drew.drew (Nat.le_refl _), H4.out.trans ((Below.refl _ _).drew.drew)⟩
          case measure => simp [intOf]
      · have HE := Lib.hid (cuE_no (K := K) (t := t) (by rw [HN.out]; exact hlt) (by rw [HN.out, hq]; exact hx))
        have fx : 64 < gI (cuAt K t) (q + 1) := by omega
        have f6 : ((q : Int) + 1).toNat = q + 1 := by omega
        have f7 : (0 : Int) ≤ (q : Int) + 1 := by omega
        have f8 : (q : Int) + 1 < (n : Int) + 1 := by omega
        have HF : Hid (RetK w (cuL K) (cuB K) (.returned (.tuple #[.slice none 0 0, .bool false])) wo) := Lib.hid (by rw [cuL_no HE.out, cuB_no HE.out]; exact retK_nil hbl)
        clear hO hO2 hset hbd hgo hx hqi
        generalize gI (cuAt K t) (q + 1) = x at *
        go_wp2
        go_ret2
        exact HF.out
    · have hte : t = n := by omega
      have hgo' : cuGo K K.length := by rw [HN.out, ← hte]; exact hgo
      have HL := Lib.hid (cuL_yes hgo')
      have HB := Lib.hid (cuB_yes hgo')
      subst hte
      have hO2 : OwnI wo w.heap.size (.slice (some ⟨w.heap.size, 0, none⟩) (cuAt K t).length (t + 1)) (cuAt K t) := by rw [hln]; exact hO
      have dx := hO2.cell 0 (by omega)
      have hb0 := hbd 0
      have hret : ∀ m, RetK w (cuL K) (cuB K) (.returned (.tuple #[.slice (some ⟨w.heap.size, 0, none⟩) (t + 1) (t + 1), .bool (decide (gI (cuAt K t) 0 ≤ 64))])) (wo.drewN m) := by
        intro m
        rw [HL.out, HB.out, HN.out]
        have := (show RetK w (cuAt K t) (decide (gI (cuAt K t) 0 ≤ 64)) (.returned (.tuple #[.slice (some ⟨w.heap.size, 0, none⟩) (cuAt K t).length (t + 1), .bool (decide (gI (cuAt K t) 0 ≤ 64))])) (wo.drewN m) from ⟨_, _, rfl, hO2.below (below_drewN (Below.refl wo.heap.size wo) m) (Nat.le_refl _), below_drewN hbl m⟩)
        rw [hln] at this
        exact this
      have HF := Lib.hid hret
      have e0 : (t : Int) - (t : Int) = 0 := by omega
      clear hO hO2 hret hbd hgo hgo' hrd hK
      generalize gI (cuAt K t) 0 = x at *
      go_wp2_with fail
      go_quiet (fail)
      go_wp2
      go_ret2
      exact HF.out _
end Go.Proofs.Ytiinceflafigeaa

/- Contract: spec.l06Proximates for any code; sums behind it. -/
namespace Go.Proofs.Ytiinceflafigeaa
open Go.RowKit

/-- The points to which the point j is proximate. -/
def prK (K : List Int) (j : Nat) : List Int := if j = 0 then [] else if gI K (j - 1) = 0 then [((j - 1 : Nat) : Int)] else [(j : Int) - gI K (j - 1), ((j - 1 : Nat) : Int)]
theorem prK_one {K : List Int} {q : Nat} (h : gI K q = 0) : prK K (q + 1) = [(q : Int)] := by simp [prK, h]
theorem prK_two {K : List Int} {q : Nat} (h : ¬ gI K q = 0) : prK K (q + 1) = [(q : Int) + 1 - gI K q, (q : Int)] := by simp [prK, h]

set_option maxRecDepth 100000 in
set_option maxHeartbeats 1000000 in
theorem l06ProxK_c (v : Value) (K : List Int) (q : Nat) (w : World) (h : Rd w v K) (hK : KOk K) (hq : q < K.length) :
    Calls Try.prog 185 #[v, .int .i64 ((q : Int) + 1)] w (RetI w (prK K (q + 1))) := by
  have hl := hK.1
  obtain ⟨b, off, cap, rfl, hc1, hc2, hb, hc⟩ := h.cells (by omega)
  have dc := hc q hq
  have hy := hK.2 q hq
  obtain ⟨n, hn⟩ : ∃ n, K.length = n := ⟨_, rfl⟩
  rw [hn] at hq hl ⊢
  have f1 : (q : Int) + 1 - 1 = (q : Int) := by omega
  have f2 : IntKind.i64.wrap (q : Int) = (q : Int) := IntWalk.i64_in _ (by omega)
  have f3 : (0 : Int) ≤ (q : Int) := by omega
  have f4 : (q : Int) < (n : Int) := by omega
  have f5 : ((q : Int) + 1 == 0) = false := beq_false_of_ne (by omega)
  have f7 : ((q : Int) + 1).toNat = q + 1 := by omega
  clear hc hn hK hc1
  by_cases h2 : gI K q = 0
  · have hO := own_one (e := 2) w w.heap.size (Nat.le_refl _) (q : Int)
    rw [← prK_one h2] at hO
    have hret := retI_mk hO ((Below.refl w.heap.size w).alloc (Nat.le_refl _) (.cells #[.int .i64 (q : Int)] 2))
    have HF := Lib.hid hret
    rw [h2] at dc
    clear hret hO h2 hy
    go_enter Try.func185, Try.ntmps185
    go_wp2
    go_ret
    exact HF.out
  · have hO := own_blk2 (base := w.heap.size) (Blk.new w 2 #[.int .i64 ((q : Int) + 1 - gI K q), .int .i64 (q : Int)]) (Nat.le_refl _)
    rw [← prK_two h2] at hO
    have hret := retI_mk hO ((Below.refl w.heap.size w).alloc (Nat.le_refl _) (.cells #[.int .i64 ((q : Int) + 1 - gI K q), .int .i64 (q : Int)] 2))
    have HF := Lib.hid hret
    have hne : (gI K q == 0) = false := beq_false_of_ne h2
    have hw : IntKind.i64.wrap ((q : Int) + 1 - gI K q) = (q : Int) + 1 - gI K q := IntWalk.i64_in _ (by omega)
    clear hret hO
    generalize gI K q = y at *
    go_enter Try.func185, Try.ntmps185
    go_wp2
    go_ret
    exact HF.out

/-- The number x is added at the first m places of the row. -/
def bumpTo (L row : List Int) (x : Int) : Nat → List Int
  | 0 => L
  | m + 1 => bump (bumpTo L row x m) (gI row m).toNat x
@[simp] theorem bumpTo_len (L row : List Int) (x : Int) (m : Nat) : (bumpTo L row x m).length = L.length := by
  induction m with
  | zero => rfl
  | succ m ih => simp [bumpTo, ih]
theorem bumpTo_succ (L row : List Int) (x : Int) (m : Nat) : bumpTo L row x (m + 1) = bump (bumpTo L row x m) (gI row m).toNat x := rfl
theorem bumpTo_bd {L row : List Int} {x : Int} {j : Nat} (hL : ∀ i, 0 ≤ gI L i ∧ gI L i ≤ 100000) (hx : 0 ≤ x ∧ x ≤ 64) (hj : j < L.length) (m : Nat) (hr : ∀ i, i < m → 0 ≤ gI row i ∧ gI row i < (j : Int)) : gI (bumpTo L row x m) j = gI L j ∧ ∀ i, 0 ≤ gI (bumpTo L row x m) i ∧ gI (bumpTo L row x m) i ≤ 100000 + 64 * (m : Int) := by
  induction m with
  | zero => exact ⟨rfl, fun i => by have := hL i; simp [bumpTo]; omega⟩
  | succ m ih =>
    obtain ⟨h1, h2⟩ := ih (fun i hi => hr i (by omega))
    have hm := hr m (by omega)
    constructor
    · rw [bumpTo_succ, gI_bump (by simp; omega), if_neg (by omega), h1]
    · intro i
      rw [bumpTo_succ, gI_bump (by simp; omega)]
      have a1 := h2 i
      have a2 := h2 (gI row m).toNat
      split <;> omega
theorem bump_comm {L : List Int} {i j : Nat} {x : Int} (hi : i < L.length) (hj : j < L.length) : bump (bump L i x) j x = bump (bump L j x) i x := by
  refine gI_ext (by simp) (fun k _ => ?_)
  rw [gI_bump (L := bump L i x) (by rw [bump_len]; omega), gI_bump (L := bump L j x) (by rw [bump_len]; omega), gI_bump hi, gI_bump hj, gI_bump hi, gI_bump hj]
  by_cases e1 : k = i
  · by_cases e2 : k = j
    · subst e1; subst e2; rfl
    · have e3 : ¬ i = j := by omega
      simp [e1, e3]
  · by_cases e2 : k = j
    · have e3 : ¬ j = i := by omega
      simp [e2, e3]
    · simp [e1, e2]
theorem bumpTo_all {K : List Int} (hK : KOk K) {t q : Nat} (hq : K.length - t = q + 1) (ht : t < K.length) : bumpTo (cuAt K t) (prK K (q + 1)) (gI (cuAt K t) (q + 1)) (prK K (q + 1)).length = cuAt K (t + 1) := by
  have hl := cuAt_len K t
  by_cases h : gI K q = 0
  · rw [cuAt_succ_zero (by rw [hq]; exact h), prK_one h, hq]
    simp [bumpTo, gI]
  · have hy := hK.2 q (by omega)
    have e : (prK K (q + 1)).length = 2 := by rw [prK_two h]; rfl
    have e0 : gI (prK K (q + 1)) 0 = (q : Int) + 1 - gI K q := by rw [prK_two h]; rfl
    have e1 : gI (prK K (q + 1)) 1 = (q : Int) := by rw [prK_two h]; rfl
    have e2 : ((q : Int) + 1 - gI K q).toNat = q + 1 - (gI K q).toNat := by omega
    rw [cuAt_succ_two (by rw [hq]; exact h), e, hq, bumpTo_succ, bumpTo_succ, e0, e1, e2, Int.toNat_natCast, Nat.add_sub_cancel]
    show bump (bump (cuAt K t) _ _) q _ = _
    exact bump_comm (by omega) (by omega)
theorem prK_row {K : List Int} (hK : KOk K) {q : Nat} (hq : q < K.length) : (prK K (q + 1)).length ≤ 2 ∧ ∀ i, i < (prK K (q + 1)).length → 0 ≤ gI (prK K (q + 1)) i ∧ gI (prK K (q + 1)) i < (q : Int) + 1 := by
  have hy := hK.2 q hq
  by_cases h : gI K q = 0
  · rw [prK_one h]
    refine ⟨by simp, fun i hi => ?_⟩
    match i, hi with
    | 0, _ => simp [gI]; omega
    | i + 1, hi => simp at hi
  · rw [prK_two h]
    refine ⟨by simp, fun i hi => ?_⟩
    match i, hi with
    | 0, _ => exact ⟨(by omega : 0 ≤ (q : Int) + 1 - gI K q), (by omega : (q : Int) + 1 - gI K q < (q : Int) + 1)⟩
    | 1, _ => exact ⟨(by omega : 0 ≤ (q : Int)), (by omega : (q : Int) < (q : Int) + 1)⟩
    | i + 2, hi => simp at hi; omega
end Go.Proofs.Ytiinceflafigeaa

/- Contract: spec.l06Curvette. -/
namespace Go.Proofs.Ytiinceflafigeaa
open Go.RowKit

set_option maxRecDepth 100000 in
set_option maxHeartbeats 4000000 in
theorem l06Curvette_c (v : Value) (K : List Int) (w : World) (h : Rd w v K) (hK : KOk K) :
    Calls Try.prog 112 #[v] w (RetK w (cuL K) (cuB K)) := by
  obtain ⟨i0, hi, hz0, hz1, hz2⟩ := info_parts Try.infoI
  obtain ⟨a, cap, rfl⟩ := h.len0
  have hlen := hK.1
  obtain ⟨n, hn⟩ : ∃ n, K.length = n := ⟨_, rfl⟩
  have HRD := Lib.hid h
  clear h
  rw [hn] at hlen HRD ⊢
  have hmk : ∀ W : World, (Instr.makeSlice 24 (.int .i64 ((n : Int) + 1)) (.int .i64 ((n : Int) + 1))).run Try.prog W = .ok (.slice (some ⟨W.heap.size, 0, none⟩) (n + 1) (n + 1)) (W.alloc (.cells (madeCells #[.int .i64 0] (n + 1)) 2)) := fun W => run_make_row 24 2 i0 _ Try.underlying24 hi hz0 hz1 rfl .i64 .i64 (n + 1) (by rw [hz2]; omega) (by omega) W
  have hal : Below w.heap.size w (w.alloc (.cells (madeCells #[.int .i64 0] (n + 1)) 2)) := (Below.refl _ _).alloc (Nat.le_refl _) _
  have hE0 := ownI_made (w := w.alloc (.cells (madeCells #[.int .i64 0] (n + 1)) 2)) (e := 2) (base := w.heap.size) (g := w.heap.size) (n := n + 1) (Blk.new w _ _) (Nat.le_refl _) (by unfold maxLen; omega)
  have hE1 := Own.set (xs := List.replicate (n + 1) 0) (by rw [List.length_replicate]; exact hE0) n 1
  have hb1 := hal.setCell (p := ⟨w.heap.size, n, none⟩) (Nat.le_refl _) (.int .i64 1)
  have c0 := Own.cell (xs := List.replicate (n + 1) 0) (by rw [List.length_replicate]; exact hE0) n (by simp)
  have f0 := Own.free (xs := List.replicate (n + 1) 0) (by rw [List.length_replicate]; exact hE0) n
  rw [List.length_replicate, ← hn, cuAt_zero_eq, hn] at hE1
  have H1 := Lib.hid hE1
  have H2 := Lib.hid hb1
  have HN := Lib.hid hn
  clear hn hE0 hE1 hb1 hal
  go_enter Try.func112, Try.ntmps112
  go_wp2_with fail
  go_loopw [6, 7, 8] (fun jv _ _ wr => ∃ t : Nat, t ≤ n ∧ jv = .int .i64 ((n : Int) - t) ∧ cuGo K t ∧ OwnI wr w.heap.size (.slice (some ⟨w.heap.size, 0, none⟩) (n + 1) (n + 1)) (cuAt K t) ∧ Below w.heap.size w wr) (fun jv _ _ _ => (intOf jv).toNat)
  case atStart => exact ⟨0, Nat.zero_le _, by simp, fun s hs => by omega, by have := H1.out; rw [World.setCell_alloc_at _ _ _ _ _ rfl] at this; exact this, by have := H2.out; rw [World.setCell_alloc_at _ _ _ _ _ rfl] at this; exact this⟩
  case round =>
    obtain ⟨t, ht, rfl, hgo, hO, hbl⟩ := hrel
    clear c0 f0 hmk
    obtain ⟨wo, rfl⟩ : ∃ wo : World, wo = wr := ⟨_, rfl⟩
    have hbd := cuAt_bd hK t (by rw [HN.out]; exact ht) hgo
    have hln := cuAt_len K t
    have hsz := hbl.size
    rw [HN.out] at hln
    by_cases hlt : t < n
    · obtain ⟨q, hq⟩ : ∃ q, n - t = q + 1 := ⟨n - t - 1, by omega⟩
      have hqi : (n : Int) - t = (q : Int) + 1 := by omega
      have hqn : q < n := by omega
      rw [hqi]
      have hO2 : OwnI wo w.heap.size (.slice (some ⟨w.heap.size, 0, none⟩) (cuAt K t).length (n + 1)) (cuAt K t) := by rw [hln]; exact hO
      have dx := hO2.cell (q + 1) (by omega)
      have bx := hbd (q + 1)
      have f6 : ((q : Int) + 1).toNat = q + 1 := by omega
      have f7 : (0 : Int) ≤ (q : Int) + 1 := by omega
      have f8 : (q : Int) + 1 < (n : Int) + 1 := by omega
      by_cases hx : gI (cuAt K t) (q + 1) ≤ 64
      · have hgo1 := cuGo_succ hgo (by rw [HN.out, hq]; exact hx)
        have hrd : Rd wo (.slice a n cap) K := HRD.out.below hbl (Nat.le_refl _)
        have hcall := l06ProxK_c (.slice a n cap) K q wo hrd hK (by rw [HN.out]; exact hqn)
        have hpr := prK_row hK (q := q) (by rw [HN.out]; exact hqn)
        have hall := bumpTo_all hK (t := t) (q := q) (by rw [HN.out]; exact hq) (by rw [HN.out]; exact hlt)
        have hbt := fun m hm => bumpTo_bd (L := cuAt K t) (row := prK K (q + 1)) (x := gI (cuAt K t) (q + 1)) (j := q + 1) (fun i => by have := hbd i; omega) (by omega) (by omega) m hm
        have fx : ¬ 64 < gI (cuAt K t) (q + 1) := by omega
        have HALL := Lib.hid hall
        have HX := Lib.hid hx
        have HBT := Lib.hid hbt
        clear hall hbd hgo hx hbt
        generalize hxx : gI (cuAt K t) (q + 1) = x at *
        generalize hrr : prK K (q + 1) = row at *
        have hqi' := Lib.hid hqi
        clear hqi
        go_wp2_with fail
        refine hcall.mono ?_
        rintro e w5 ⟨ar, kr, rfl, hR, hb5⟩
        have hO5 := hO.below hb5 (Nat.le_refl _)
        have HLT := Lib.hid (hO.block _ rfl).2
        have hbl5 := hbl.trans (hb5.mono hsz)
        clear hcall dx hO2 hrd
        go_wp2_with fail
        go_loopw [8] (fun iv wr => ∃ m : Nat, m ≤ row.length ∧ iv = .int .i64 m ∧ OwnI wr w.heap.size (.slice (some ⟨w.heap.size, 0, none⟩) (n + 1) (n + 1)) (bumpTo (cuAt K t) row x m) ∧ Keeps (fun q => q = w.heap.size) w5 wr) (fun iv _ => row.length - (intOf iv).toNat)
        case atStart => exact ⟨0, Nat.zero_le _, rfl, hO5, Keeps.refl _ _⟩
        case round =>
          obtain ⟨m, hm, rfl, hOm, hkp⟩ := hrel
          obtain ⟨wi, rfl⟩ : ∃ wi : World, wi = wr := ⟨_, rfl⟩
          have hm0 : (0 : Int) ≤ (m : Int) := Int.natCast_nonneg _
          obtain ⟨hb1, hb2⟩ := HBT.out m (fun i hi => ⟨(hpr.2 i (Nat.lt_of_lt_of_le hi hm)).1, by have := (hpr.2 i (Nat.lt_of_lt_of_le hi hm)).2; omega⟩)
          have hRi := hR.keeps hkp (fun g hg e => by have := (hR.block g hg).1; have := HLT.out; omega)
          by_cases hmt : m < row.length
          · have hmi : (m : Int) < (row.length : Int) := by omega
            obtain ⟨gr, cr, hre, _⟩ := Own.pos hRi (by omega)
            injection hre with he1 _ he3
            subst he1
            subst he3
            have dr := hRi.cell m hmt
            have hrow := hpr.2 m hmt
            obtain ⟨r, hr⟩ := Int.eq_ofNat_of_zero_le hrow.1
            have hOm' : OwnI wi w.heap.size (.slice (some ⟨w.heap.size, 0, none⟩) (bumpTo (cuAt K t) row x m).length (n + 1)) (bumpTo (cuAt K t) row x m) := by rw [bumpTo_len, hln]; exact hOm
            have cz := hOm'.cell r (by rw [bumpTo_len]; omega)
            have fz := hOm'.free r
            have cx := hOm'.cell (q + 1) (by rw [bumpTo_len]; omega)
            rw [hb1] at cx
            have hz := hb2 r
            have hset := hOm'.set r (gI (bumpTo (cuAt K t) row x m) r + x)
            have hk2 := hkp.setCell (p := ⟨w.heap.size, r, none⟩) rfl (.int .i64 (gI (bumpTo (cuAt K t) row x m) r + x))
            have HT : Hid (bumpTo (cuAt K t) row x (m + 1) = (bumpTo (cuAt K t) row x m).set r (gI (bumpTo (cuAt K t) row x m) r + x)) := Lib.hid (by rw [bumpTo_succ, hr]; rfl)
            rw [← HT.out, bumpTo_len, hln] at hset
            have H3 := Lib.hid (hset.below (Below.refl (wi.setCell ⟨w.heap.size, r, none⟩ (.int .i64 (gI (bumpTo (cuAt K t) row x m) r + x))).heap.size _).drew (Nat.le_refl _))
            have H4 := Lib.hid (hk2.trans (Keeps.of_below (Below.refl _ _).drew))
            rw [hr] at dr hrow
            have wzx : IntKind.i64.wrap (gI (bumpTo (cuAt K t) row x m) r + x) = gI (bumpTo (cuAt K t) row x m) r + x := IntWalk.i64_in _ (by omega)
            have g1 : (0 : Int) ≤ (r : Int) := by omega
            have g2 : (r : Int) < (n : Int) + 1 := by omega
            clear hOm hOm' hset hk2 HT hkp hRi hb1 hb2 hr hO5 hxx hrr
            generalize gI (bumpTo (cuAt K t) row x m) r = z at *
            go_wp2_with fail
            go_region
            go_wp2
            go_roundw
            case rel => exact ⟨m + 1, by omega, by go_num, H3.out, H4.out⟩
            case measure => simp [intOf]; omega
          · have hme : m = row.length := by omega
            subst hme
            rw [HALL.out] at hOm
            have hbl6 := hbl5.trans (hkp.below hbl5.size (fun q hq => by omega))
            have H3 := Lib.hid hOm
            have H4 := Lib.hid hbl6
            have f1 : (q : Int) + 1 - 1 = (q : Int) := by omega
            have f2 : IntKind.i64.wrap (q : Int) = (q : Int) := IntWalk.i64_in _ (by omega)
            have hte : (n : Int) - ((t + 1 : Nat) : Int) = (q : Int) := by omega
            have HTE := Lib.hid hte
            clear hOm hbl6 hb1 hb2 hRi hkp hpr hO5 hO hxx hrr hR hte
            go_wp2
            go_roundw
            case rel => exact ⟨t + 1, by omega, by rw [HTE.out], hgo1, H3.out, H4.out⟩
            case measure => simp [intOf]
      · have HE := Lib.hid (cuE_no (K := K) (t := t) (by rw [HN.out]; exact hlt) (by rw [HN.out, hq]; exact hx))
        have fx : 64 < gI (cuAt K t) (q + 1) := by omega
        have HF : Hid (RetK w (cuL K) (cuB K) (.returned (.tuple #[.slice none 0 0, .bool false])) wo) := Lib.hid (by rw [cuL_no HE.out, cuB_no HE.out]; exact retK_nil hbl)
        clear hO hO2 hbd hgo hx hqi
        generalize gI (cuAt K t) (q + 1) = x at *
        go_wp2
        go_ret2
        exact HF.out
    · have hte : t = n := by omega
      have hgo' : cuGo K K.length := by rw [HN.out, ← hte]; exact hgo
      have HL := Lib.hid (cuL_yes hgo')
      have HB := Lib.hid (cuB_yes hgo')
      subst hte
      have hO2 : OwnI wo w.heap.size (.slice (some ⟨w.heap.size, 0, none⟩) (cuAt K t).length (t + 1)) (cuAt K t) := by rw [hln]; exact hO
      have dx := hO2.cell 0 (by omega)
      have hb0 := hbd 0
      have hret : ∀ m, RetK w (cuL K) (cuB K) (.returned (.tuple #[.slice (some ⟨w.heap.size, 0, none⟩) (t + 1) (t + 1), .bool (decide (gI (cuAt K t) 0 ≤ 64))])) (wo.drewN m) := by
        intro m
        rw [HL.out, HB.out, HN.out]
        have := (show RetK w (cuAt K t) (decide (gI (cuAt K t) 0 ≤ 64)) (.returned (.tuple #[.slice (some ⟨w.heap.size, 0, none⟩) (cuAt K t).length (t + 1), .bool (decide (gI (cuAt K t) 0 ≤ 64))])) (wo.drewN m) from ⟨_, _, rfl, hO2.below (below_drewN (Below.refl wo.heap.size wo) m) (Nat.le_refl _), below_drewN hbl m⟩)
        rw [hln] at this
        exact this
      have HF := Lib.hid hret
      have e0 : (t : Int) - (t : Int) = 0 := by omega
      clear hO hO2 hret hbd hgo hgo' hK
      generalize gI (cuAt K t) 0 = x at *
      go_wp2_with fail
      go_quiet (fail)
      go_wp2
      go_ret2
      exact HF.out _
end Go.Proofs.Ytiinceflafigeaa
