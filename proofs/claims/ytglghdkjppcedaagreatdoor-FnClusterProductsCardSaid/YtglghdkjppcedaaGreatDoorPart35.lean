/- Contract: spec.DrawAddClusters. -/
import Derived.Test.YtglghdkjppcedaaGreatDoorPart34
import Derived.Test.YtglghdkjppcedaaGreatDoorPart15
import Derived.Test.YtglghdkjppcedaaGreatDoorPart24
import Derived.Test.YtglghdkjppcedaaGreatDoorPart30
import Derived.Test.YtglghdkjppcedaaGreatDoorPart31
import Derived.Test.YtglghdkjppcedaaGreatDoorPart32
namespace Go.Proofs.YtglghdkjppcedaaGreatDoor
open Go.RowKit

set_option maxRecDepth 100000 in
set_option maxHeartbeats 8000000 in
theorem drawAddClusters_w (v : Value) (C : List Int) (w : World) (h : Rd8 w v C) :
    Calls Tryz.prog 17 #[v] w (RetTwo w) := by
  have D := (Blk.new w 26 #[.slice none 0 0, .slice none 0 0, .slice none 0 0]).alloc (.cells #[.slice none 0 0, .slice none 0 0, .slice none 0 0] 26)
  have G := Blk.new' (w := w.alloc (.cells #[.slice none 0 0, .slice none 0 0, .slice none 0 0] 26)) (t := 26) (cs := #[.slice none 0 0, .slice none 0 0, .slice none 0 0]) (g := w.heap.size + 1) (by simp)
  have hal : Below w.heap.size w ((w.alloc (.cells #[.slice none 0 0, .slice none 0 0, .slice none 0 0] 26)).alloc (.cells #[.slice none 0 0, .slice none 0 0, .slice none 0 0] 26)) := ((Below.refl _ _).alloc (Nat.le_refl _) _).alloc (by simp) _
  have h1 := h.below hal (Nat.le_refl _)
  have hs0 : w.heap.size + 2 = ((w.alloc (.cells #[.slice none 0 0, .slice none 0 0, .slice none 0 0] 26)).alloc (.cells #[.slice none 0 0, .slice none 0 0, .slice none 0 0] 26)).heap.size := by simp
  go_enter Tryz.func17, Tryz.ntmps17
  go_wp2_with fail
  generalize (w.alloc (.cells #[.slice none 0 0, .slice none 0 0, .slice none 0 0] 26)).alloc (.cells #[.slice none 0 0, .slice none 0 0, .slice none 0 0] 26) = w0 at *
  refine (l07Two_w v C _ h1).mono ?_
  rintro e w1 ⟨m, n3, m', n', a, b, d, a', b', d', ca, cb, cd, ca', cb', cd', P, S, W, P', S', W', rfl, r1, r2, r3, r4, r5, r6, ⟨l1, l2, l3, l4, l5, l6⟩, hm, ⟨hn1, hn2⟩, hb1⟩
  have hz1 : w0.heap.size ≤ w1.heap.size := hb1.size
  have hz2 : w1.heap.size ≠ w.heap.size := by omega
  have hz3 : w1.heap.size + 1 ≠ w.heap.size := by omega
  have hz4 : w1.heap.size ≠ w.heap.size + 1 := by omega
  have hz5 : w1.heap.size + 1 ≠ w.heap.size + 1 := by omega
  have X := (Blk.new w1 26 #[.slice a m ca, .slice b m cb, .slice d n3 cd]).alloc (.cells #[.slice a' m' ca', .slice b' m' cb', .slice d' n' cd'] 26)
  have Y := Blk.new' (w := w1.alloc (.cells #[.slice a m ca, .slice b m cb, .slice d n3 cd] 26)) (t := 26) (cs := #[.slice a' m' ca', .slice b' m' cb', .slice d' n' cd']) (g := w1.heap.size + 1) (by simp)
  have hal2 : Below w1.heap.size w1 ((w1.alloc (.cells #[.slice a m ca, .slice b m cb, .slice d n3 cd] 26)).alloc (.cells #[.slice a' m' ca', .slice b' m' cb', .slice d' n' cd'] 26)) := ((Below.refl _ _).alloc (Nat.le_refl _) _).alloc (by simp) _
  have D2 := (D.stays hb1).stays hal2
  have G2 := (G.stays hb1).stays hal2
  have hB2 := (hal.trans (hb1.mono hal.size)).trans (hal2.mono (by omega))
  replace r1 := r1.below hal2 (Nat.le_refl _)
  replace r2 := r2.below hal2 (Nat.le_refl _)
  replace r3 := r3.below hal2 (Nat.le_refl _)
  replace r4 := r4.below hal2 (Nat.le_refl _)
  replace r5 := r5.below hal2 (Nat.le_refl _)
  replace r6 := r6.below hal2 (Nat.le_refl _)
  clear h h1 hal hb1 hal2 D G
  go_upto_region 2 with fail
  generalize (w1.alloc (.cells #[.slice a m ca, .slice b m cb, .slice d n3 cd] 26)).alloc (.cells #[.slice a' m' ca', .slice b' m' cb', .slice d' n' cd'] 26) = w2 at *
  have hkd1 := keeps_D (w := w2) w.heap.size (.slice a m ca) (.slice b m cb) (.slice d n3 cd)
  have hkd2 := keeps_D (w := (((w2.setCell ⟨w.heap.size, 0, none⟩ (.slice a m ca)).setCell ⟨w.heap.size, 1, none⟩ (.slice b m cb)).setCell ⟨w.heap.size, 2, none⟩ (.slice d n3 cd))) (w.heap.size + 1) (.slice a' m' ca') (.slice b' m' cb') (.slice d' n' cd')
  have hB5 := hB2.trans (hkd1.below hB2.size (fun q e => by omega))
  have hB6 := hB5.trans (hkd2.below hB5.size (fun q e => by omega))
  have HF0 : (RetTwo w (.returned (.tuple #[.agg #[.slice a m ca, .slice b m cb, .slice d n3 cd], .agg #[.slice a' m' ca', .slice b' m' cb', .slice d' n' cd']])) ((((((w2.setCell ⟨w.heap.size, 0, none⟩ (.slice a m ca)).setCell ⟨w.heap.size, 1, none⟩ (.slice b m cb)).setCell ⟨w.heap.size, 2, none⟩ (.slice d n3 cd)).setCell ⟨w.heap.size + 1, 0, none⟩ (.slice a' m' ca')).setCell ⟨w.heap.size + 1, 1, none⟩ (.slice b' m' cb')).setCell ⟨w.heap.size + 1, 2, none⟩ (.slice d' n' cd'))) :=
    ⟨m, n3, m', n', a, b, d, a', b', d', ca, cb, cd, ca', cb', cd', P, S, W, P', S', W', rfl, (((r1).keepsK hkd1 (fun q hq e => by have := hn1 q (.inl hq); omega)).keepsK hkd2 (fun q hq e => by have := hn1 q (.inl hq); omega)), (((r2).keepsK hkd1 (fun q hq e => by have := hn1 q (.inr (.inl hq)); omega)).keepsK hkd2 (fun q hq e => by have := hn1 q (.inr (.inl hq)); omega)), (((r3).keepsK hkd1 (fun q hq e => by have := hn1 q (.inr (.inr hq)); omega)).keepsK hkd2 (fun q hq e => by have := hn1 q (.inr (.inr hq)); omega)), (((r4).keepsK hkd1 (fun q hq e => by have := hn2 q (.inl hq); omega)).keepsK hkd2 (fun q hq e => by have := hn2 q (.inl hq); omega)), (((r5).keepsK hkd1 (fun q hq e => by have := hn2 q (.inr (.inl hq)); omega)).keepsK hkd2 (fun q hq e => by have := hn2 q (.inr (.inl hq)); omega)), (((r6).keepsK hkd1 (fun q hq e => by have := hn2 q (.inr (.inr hq)); omega)).keepsK hkd2 (fun q hq e => by have := hn2 q (.inr (.inr hq)); omega)), ⟨l1, l2, l3, l4, l5, l6⟩, hm, ⟨fun q hq => by have := hn1 q hq; omega, fun q hq => by have := hn2 q hq; omega⟩, hB6⟩
  have HF := Lib.hid HF0.drew
  clear HF0
  have d0 := D2.cell 0
  have fd0 := D2.free 0
  have g0 := G2.cell 0
  have fg0 := G2.free 0
  have e0 := X.cell 0
  have b0 := Y.cell 0
  have d1 := D2.cell 1
  have fd1 := D2.free 1
  have g1 := G2.cell 1
  have fg1 := G2.free 1
  have e1 := X.cell 1
  have b1 := Y.cell 1
  have d2 := D2.cell 2
  have fd2 := D2.free 2
  have g2 := G2.cell 2
  have fg2 := G2.free 2
  have e2 := X.cell 2
  have b2 := Y.cell 2
  have D9 := (((D2.set 0 (.slice a m ca)).set 1 (.slice b m cb)).set 2 (.slice d n3 cd)).keeps hkd2 (by omega)
  have G9 := (((G2.keeps hkd1 (by omega)).set 0 (.slice a' m' ca')).set 1 (.slice b' m' cb')).set 2 (.slice d' n' cd')
  have q0 := D9.cell 0
  have q1 := D9.cell 1
  have q2 := D9.cell 2
  have r0 := G9.cell 0
  have r1' := G9.cell 1
  have r2' := G9.cell 2
  clear hkd1 hkd2 D9 G9 D2 G2  X Y hB2 hB5 hB6 r1 r2 r3 r4 r5 r6 l1 l2 l3 l4 l5 l6 hm hn1 hn2
  go_region
  all_goals
    clear d0 d1 d2 g0 g1 g2 fd0 fd1 fd2 fg0 fg1 fg2 e0 e1 e2 b0 b1 b2
    go_wp2
    exact bodyPost_ret (v := .tuple #[.agg #[.slice a m ca, .slice b m cb, .slice d n3 cd], .agg #[.slice a' m' ca', .slice b' m' cb', .slice d' n' cd']]) (by simp [results, Tryz.results17, go_sem, q0, q1, q2, r0, r1', r2']) rfl HF.out
end Go.Proofs.YtglghdkjppcedaaGreatDoor

/- Contracts and plain facts as the law on products of clusters needs them. -/
namespace Go.Proofs.YtglghdkjppcedaaGreatDoor
open Go.RowKit

theorem implOx_v (p s q v : Value) (P S W O A B D : List Int) (k1 k2 k3 : Nat) (cc : Int) (w : World) (hp : Rd w p P) (hs : Rd w s S) (hq : Rd w q W) (hv : Rd w v O) (hA : okL (oxB P S W O) P = A) (hB : okL (oxB P S W O) S = B) (hD : okL (oxB P S W O) (linTo P S O P.length) = D) (hc : oxC P S W O = cc) (l1 : A.length = k1) (l2 : B.length = k2) (l3 : D.length = k3) :
    Calls Tryz.prog 6 #[.agg #[p, s, q], v] w (RvKC w k1 k2 k3 A B D cc) :=
  (implOfExc_c p s q v P S W O w hp hs hq hv).mono fun _ _ hh => rvKC_cc hh hA hB hD l1 l2 l3 hc
theorem specOx_v (p s q v : Value) (P S W O A B D : List Int) (k1 k2 k3 : Nat) (cc : Int) (w : World) (hp : Rd w p P) (hs : Rd w s S) (hq : Rd w q W) (hv : Rd w v O) (hA : okL (oxB P S W O) P = A) (hB : okL (oxB P S W O) S = B) (hD : okL (oxB P S W O) (linTo P S O P.length) = D) (hc : oxC P S W O = cc) (l1 : A.length = k1) (l2 : B.length = k2) (l3 : D.length = k3) :
    Calls Tryz.prog 7 #[.agg #[p, s, q], v] w (RvKC w k1 k2 k3 A B D cc) :=
  (specOfExc_c p s q v P S W O w hp hs hq hv).mono fun _ _ hh => rvKC_cc hh hA hB hD l1 l2 l3 hc
theorem implAd_v (p s q p' s' q' : Value) (P S W P' S' W' A B D : List Int) (k1 k2 k3 : Nat) (cc : Int) (w : World) (hp : Rd w p P) (hs : Rd w s S) (hq : Rd w q W) (hp' : Rd w p' P') (hs' : Rd w s' S') (hq' : Rd w q' W') (hA : okL (adB P S W P' S' W') P = A) (hB : okL (adB P S W P' S' W') S = B) (hD : okL (adB P S W P' S' W') (adTo W W' W.length) = D) (hc : adC P S W P' S' W' = cc) (l1 : A.length = k1) (l2 : B.length = k2) (l3 : D.length = k3) :
    Calls Tryz.prog 18 #[.agg #[p, s, q], .agg #[p', s', q']] w (RvKC w k1 k2 k3 A B D cc) :=
  (implAdd_c p s q p' s' q' P S W P' S' W' w hp hs hq hp' hs' hq').mono fun _ _ hh => rvKC_cc hh hA hB hD l1 l2 l3 hc
theorem specAd_v (p s q p' s' q' : Value) (P S W P' S' W' A B D : List Int) (k1 k2 k3 : Nat) (cc : Int) (w : World) (hp : Rd w p P) (hs : Rd w s S) (hq : Rd w q W) (hp' : Rd w p' P') (hs' : Rd w s' S') (hq' : Rd w q' W') (hA : okL (adB P S W P' S' W') P = A) (hB : okL (adB P S W P' S' W') S = B) (hD : okL (adB P S W P' S' W') (adTo W W' W.length) = D) (hc : adC P S W P' S' W' = cc) (l1 : A.length = k1) (l2 : B.length = k2) (l3 : D.length = k3) :
    Calls Tryz.prog 19 #[.agg #[p, s, q], .agg #[p', s', q']] w (RvKC w k1 k2 k3 A B D cc) :=
  (specAdd_c p s q p' s' q' P S W P' S' W' w hp hs hq hp' hs' hq').mono fun _ _ hh => rvKC_cc hh hA hB hD l1 l2 l3 hc
theorem implPC_v (s : ByteArray) (P S W : List Int) (k1 k2 k3 : Nat) (c : Int) (w : World) (hs : s.size ≤ 137438953472) (hR : PcR (lB s) P S W c) (l1 : P.length = k1) (l2 : S.length = k2) (l3 : W.length = k3) :
    Calls Tryz.prog 23 #[.string s] w (RvKC w k1 k2 k3 P S W c) :=
  (implPC_c s P S W c w hs hR).mono fun _ _ hh => rvKC_cc hh rfl rfl rfl l1 l2 l3 rfl
theorem specPC_v (s : ByteArray) (P S W : List Int) (k1 k2 k3 : Nat) (c : Int) (w : World) (hs : s.size ≤ 137438953472) (hR : PcR (lB s) P S W c) (l1 : P.length = k1) (l2 : S.length = k2) (l3 : W.length = k3) :
    Calls Tryz.prog 24 #[.string s] w (RvKC w k1 k2 k3 P S W c) :=
  (specPC_c s P S W c w hs hR).mono fun _ _ hh => rvKC_cc hh rfl rfl rfl l1 l2 l3 rfl
theorem mult_v (p s q p' s' q' : Value) (P S W P' S' W' : List Int) (x c : Int) (w : World) (hp : Rd w p P) (hs : Rd w s S) (hq : Rd w q W) (hp' : Rd w p' P') (hs' : Rd w s' S') (hq' : Rd w q' W') (hx : okN (pairB P S W P' S' W') (dotTo W W' W.length) = x) (hc : pairC P S W P' S' W' = c) :
    Calls Tryz.prog 16 #[.agg #[p, s, q], .agg #[p', s', q']] w fun e w' => e = .returned (.tuple #[.int .i64 x, .int .i64 c]) ∧ Below w.heap.size w w' := by
  subst hx hc
  exact implMultiply_c p s q p' s' q' P S W P' S' W' w hp hs hq hp' hs' hq'
theorem smult_v (p s q p' s' q' : Value) (P S W P' S' W' : List Int) (x c : Int) (w : World) (hp : Rd w p P) (hs : Rd w s S) (hq : Rd w q W) (hp' : Rd w p' P') (hs' : Rd w s' S') (hq' : Rd w q' W') (hx : okN (pairB P S W P' S' W') (dotTo W W' W.length) = x) (hc : pairC P S W P' S' W' = c) :
    Calls Tryz.prog 20 #[.agg #[p, s, q], .agg #[p', s', q']] w fun e w' => e = .returned (.tuple #[.int .i64 x, .int .i64 c]) ∧ Below w.heap.size w w' := by
  subst hx hc
  exact specMultiply_c p s q p' s' q' P S W P' S' W' w hp hs hq hp' hs' hq'
theorem mult_ok (p s q p' s' q' : Value) (P S W V : List Int) (x : Int) (w : World) (hp : Rd w p P) (hs : Rd w s S) (hq : Rd w q W) (hp' : Rd w p' P) (hs' : Rd w s' S) (hq' : Rd w q' V) (h1 : CluOk P S W) (h2 : CluOk P S V) (hx : dotTo W V W.length = x) :
    Calls Tryz.prog 16 #[.agg #[p, s, q], .agg #[p', s', q']] w fun e w' => e = .returned (.tuple #[.int .i64 x, .int .i64 0]) ∧ Below w.heap.size w w' := by
  have e1 := cluB_iff.2 h1
  have e2 := cluB_iff.2 h2
  have e3 : likeB P S P S = true := likeB_iff.2 ⟨rfl, rfl⟩
  exact mult_v p s q p' s' q' P S W P S V x 0 w hp hs hq hp' hs' hq' (by rw [okN_true (pairB_iff.2 ⟨e1, e2, e3⟩), hx]) (pairC_0 e1 e2 e3)
theorem delta_v (p s q : Value) (P S W : List Int) (x : Int) (w : World) (hp : Rd w p P) (hs : Rd w s S) (hq : Rd w q W) (hc : CluOk P S W) (hx : deltaL W = x) :
    Calls Tryz.prog 21 #[.agg #[p, s, q]] w fun e w' => e = .returned (.tuple #[.int .i64 x, .int .i64 0]) ∧ Below w.heap.size w w' :=
  (implDeltaOfCluster_c p s q P S W w hp hs hq).mono fun _ _ ⟨he, hb⟩ => ⟨by rw [he, okN_true (cluB_iff.2 hc), okC_true (cluB_iff.2 hc), hx], hb⟩
theorem emat_v (p s q : Value) (P S W : List Int) (n : Nat) (w : World) (hp : Rd w p P) (hs : Rd w s S) (hq : Rd w q W) (hc : CluOk P S W) (hn : P.length = n) :
    Calls Tryz.prog 12 #[.agg #[p, s, q]] w (RvMC w n (emL P S) 0) :=
  (implExceptionalMatrix_yes p s q P S W w hp hs hq (cluB_iff.2 hc)).mono fun _ _ hh => rvMC_mc hh rfl (by rw [emL_len, hn]) rfl
theorem em_small {P S W : List Int} (hc : CluOk P S W) {i k : Nat} (hk : k < P.length) :
    -100000000000000000 ≤ gI (emRow P S i) k * gI (ordTo (fun j => gI W j) P S P.length) k ∧ gI (emRow P S i) k * gI (ordTo (fun j => gI W j) P S P.length) k ≤ 100000000000000000 := by
  have h24 := hc.1.2.1
  have h1 := emI_bd P S i k P.length
  rw [gI_emRow hk]
  have h2 := ord_bd hc (own := fun j => gI W j) (fun j hj => hc.2.1 j (by rw [hc.1.2.2.2]; exact hj)) k hk P.length hk
  have h3 := capI_mono (show k ≤ 23 by omega)
  rw [capI_23] at h3
  have := mul_abs_le (x := emI P S i k P.length) (y := gI (ordTo (fun j => gI W j) P S P.length) k) (B := 24) (C := 1677721500000) (by omega) (by omega)
  omega
theorem ox_yes {P S W O A B D : List Int} {cc : Int} (hA : okL (oxB P S W O) P = A) (hB : okL (oxB P S W O) S = B) (hD : okL (oxB P S W O) (linTo P S O P.length) = D) (hcc : oxC P S W O = cc) (h : cc = 0) :
    CluOk A B D ∧ A.length = O.length ∧ B.length = O.length ∧ D.length = O.length ∧ exTo (proxL A B) D A.length = O ∧ ∀ i, i < O.length → dotP (emRow A B i) (ordTo (fun j => gI D j) A B A.length) O.length = -gI O i := by
  rw [h] at hcc
  obtain ⟨hb, hok, hl, hok2⟩ := ox_ok hcc
  rw [okL_true hb] at hA hB hD
  subst hA hB hD
  refine ⟨hok2, hl.symm, by rw [hok.1.2.2.1, hl], by simp [linTo, hl], exL_lin hok hl, fun i hi => ?_⟩
  have := prod_row hok hl (i := i) (by omega)
  rw [hl]
  exact this
theorem ad_yes2 {P S W P' S' W' A B D : List Int} {cc : Int} (hA : okL (adB P S W P' S' W') P = A) (hB : okL (adB P S W P' S' W') S = B) (hD : okL (adB P S W P' S' W') (adTo W W' W.length) = D) (hcc : adC P S W P' S' W' = cc) (h : cc = 0) :
    CluOk P S W ∧ CluOk P S W' ∧ P' = P ∧ S' = S ∧ CluOk A B D ∧ (pairB P S W P' S' W' = true ∧ pairC P S W P' S' W' = 0) ∧ deltaL D = deltaL W + deltaL W' + dotTo W W' W.length ∧ dotTo W' W W'.length = dotTo W W' W.length ∧ (0 ≤ deltaL W ∧ deltaL W ≤ 1000000000000) ∧ (0 ≤ deltaL W' ∧ deltaL W' ≤ 1000000000000) ∧ (-100000000000000 ≤ dotTo W W' W.length ∧ dotTo W W' W.length ≤ 100000000000000) := by
  rw [h] at hcc
  obtain ⟨hb, h1, h2, h3, h4⟩ := ad_ok hcc
  rw [okL_true hb] at hA hB hD
  obtain ⟨rfl, rfl⟩ := likeB_iff.1 h3
  subst hA hB hD
  have l1 := h1.1.2.2.2
  have l2 := h2.1.2.2.2
  have l24 := h1.1.2.1
  have hd : ∀ V : List Int, CluOk P S V → 0 ≤ deltaL V ∧ deltaL V ≤ 1000000000000 := fun V hV => by
    have := sumTo_bound (f := fun i => tri (gI V i)) (n := V.length) 0 10000100000 (fun i hi => tri_bd _ (hV.2.1 i hi))
    have l := hV.1.2.2.2
    unfold deltaL
    omega
  refine ⟨h1, h2, rfl, rfl, h4, ⟨pairB_iff.2 ⟨cluB_iff.2 h1, cluB_iff.2 h2, h3⟩, pairC_0 (cluB_iff.2 h1) (cluB_iff.2 h2) h3⟩, delta_sum (by omega), ?_, hd _ h1, hd _ h2, dotTo_bd (fun i hi => h1.2.1 i hi) (fun i hi => h2.2.1 i (by omega)) (by omega)⟩
  unfold dotTo
  rw [l1, l2]
  exact sumTo_congr fun i _ => Int.mul_comm _ _
theorem simp_yes {P S W : List Int} (hc : CluOk P S W) {i : Nat} (hi : i < P.length) : ptB P S W (i : Int) = true ∧ CluOk P S (mRow P S i) ∧ dotTo W (mRow P S i) W.length = gI (ordTo (fun j => gI W j) P S P.length) i := by
  refine ⟨?_, clu_mRow hc hi, prod_simple hc hi⟩
  simp only [ptB, Bool.and_eq_true, inB, decide_eq_true_eq]
  exact ⟨cluB_iff.2 hc, by omega⟩
theorem ctS_ok {P S W : List Int} (hc : CluOk P S W) : lB (ctS P S W) = ctL P S W ∧ (ctS P S W).size ≤ 1000 := by
  have h : lB (ctS P S W) = ctL P S W := by unfold ctS lB; rw [if_pos (cluB_iff.2 hc)]
  exact ⟨h, by rw [← lB_len, h]; exact ctL_bd hc⟩
theorem pcR_yes {t : ByteArray} {P S W : List Int} {c : Int} (h : PcR (lB t) P S W c) (hc : c = 0) : CluOk P S W ∧ ctS P S W = t := by
  rcases h with ⟨h1, h2, _⟩ | ⟨_, _, _, _, h3⟩
  · exact ⟨h1, lB_inj ((ctS_ok h1).1.trans h2)⟩
  · rw [hc] at h3; exact absurd h3 (by decide)
end Go.Proofs.YtglghdkjppcedaaGreatDoor
