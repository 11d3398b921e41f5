/- Contracts: impl.branchAt, spec.l08Code. -/
import Derived.Test.YtibfigmnoamheaaBapI
namespace Go.Proofs.Ytibfigmnoamheaa
open Go.RowKit

set_option maxRecDepth 100000 in
set_option maxHeartbeats 8000000 in
theorem branchAt_c (p s q : Value) (P S W xs : List Int) (n c : Int) (w : World) (hp : Rd w p P) (hs : Rd w s S) (hq : Rd w q W) (hc : CluOk P S W) (hn0 : 0 ≤ n) (hn1 : n < (P.length : Int)) (hR : CvR (pcL S (pathTo P n) ((pathTo P n).length - 1)) xs c) :
    Calls Try.prog 208 #[.agg #[p, s, q], .int .i64 n] w (RetBC w xs c) := by
  obtain ⟨i0, hi, hz0, hz1, hz2⟩ := info_parts Try.infoI
  obtain ⟨a1, k1, rfl⟩ := hp.len0
  obtain ⟨a2, k2, rfl⟩ := hs.len0
  obtain ⟨a3, k3, rfl⟩ := hq.len0
  have hx := (Boxed.start w 40 #[.slice a1 P.length k1, .slice a2 S.length k2, .slice a3 W.length k3]).alloc (.cells #[.slice none 0 0] 26)
  have D := Blk.new' (w := w.alloc (.cells #[.slice a1 P.length k1, .slice a2 S.length k2, .slice a3 W.length k3] 40)) (t := 26) (cs := #[.slice none 0 0]) (g := w.heap.size + 1) (by simp)
  have c0 := hx.cell 0
  have c1 := hx.cell 1
  have c2 := hx.cell 2
  have HPO := Lib.hid (pathTo_ok hc hn0 hn1)
  have hpl := pathUp_len P (P.length + 1) n
  have HCC := Lib.hid hc
  have HSL := Lib.hid hc.1.2.2.1
  have hP24 := hc.1.2.1
  have HN1 := Lib.hid hn1
  have HR := Lib.hid hR
  clear hR
  go_enter Try.func208, Try.ntmps208
  go_wp2_with fail
  refine (pathOf_c _ _ _ P S W n _ (hx.rd hp) HCC.out hn0 HN1.out).mono ?_
  rintro e w2 ⟨aL, kL, rfl, hOL, hb⟩
  have hx2 := hx.trans hb
  have D2 := D.stays hb
  have hDl := D2.lt
  unfold pathTo at *
  have HKC := Lib.hid (kco_path HCC.out HPO.out HN1.out (by omega))
  generalize pathUp P (P.length + 1) n = L at *
  have HP := Lib.hid HPO.out
  have HL25 : Hid (L.length ≤ 25) := Lib.hid (by omega)
  have hL1 := HPO.out.len
  have HRL := Lib.hid hOL.rd
  have HX := Lib.hid hx2
  have hal : Below w2.heap.size w2 (w2.alloc (.cells #[] 2)) := (Below.refl _ _).alloc (Nat.le_refl _) _
  clear c0 c1 c2 hx D hOL
  go_wp2_with fail
  go_loopw [7, 8, 9, 10] (fun cv jv _ _ wr => ∃ m : Nat, m + 1 ≤ L.length ∧ jv = .int .i64 ((m : Int) + 1) ∧ OwnI wr w2.heap.size cv (pcL S L m) ∧ Below w2.heap.size w2 wr) (fun _ jv _ _ _ => L.length - (intOf jv).toNat)
  case atStart => exact ⟨0, by omega, by simp, own_empty w2 _ (Nat.le_refl _), hal⟩
  case round =>
    obtain ⟨m, hm, rfl, hO, hbl⟩ := hrel
    obtain ⟨wo, rfl⟩ : ∃ wo : World, wo = wr := ⟨_, rfl⟩
    have hsz := hbl.size
    have hxo := HX.out.trans hbl
    by_cases hlt : m + 1 < L.length
    · have hnum := HP.out.num (m + 1) hlt
      obtain ⟨r, hr⟩ := Int.eq_ofNat_of_zero_le hnum.1
      have hrl : r < P.length := by have := HN1.out; omega
      have hse : seL S L (m + 1) = gI S r := by unfold seL; rw [hr]; rfl
      obtain ⟨bL, oL, cL, heL, _, _, hbL, hcL⟩ := (HRL.out.below hbl (Nat.le_refl _)).cells (by omega)
      injection heL with he1 he2 he3
      subst he1 he3
      have dL := hcL (m + 1) hlt
      rw [hr] at dL
      obtain ⟨bS, oS, cS, heS, _, _, hbS, hcS⟩ := (hxo.rd hs).cells (by rw [HSL.out]; omega)
      injection heS with he1 he4 he3
      subst he1 he3
      have dS := hcS r (by rw [HSL.out]; exact hrl)
      have c1 := hxo.cell 1
      have HY := Lib.hid (pcL_succ S L m)
      have hml : (pcL S L m).length = m := pcL_len _ _ _
      have hmb : m ≤ 25 := by have := HL25.out; omega
      have HRL2 := Lib.hid (HRL.out.below hbl (Nat.le_refl _))
      have f1 : (m : Int) + 1 < (L.length : Int) := by omega
      have f2 : (0 : Int) ≤ (m : Int) + 1 := by omega
      have f3 : ((m : Int) + 1).toNat = m + 1 := by omega
      have f4 : (r : Int) < (P.length : Int) := by omega
      have f5 : (0 : Int) ≤ (r : Int) := by omega
      have f6 : (r : Int) < (S.length : Int) := by rw [HSL.out]; exact f4
      have HSE := Lib.hid hse
      clear hnum hr hcL hcS he2 he4 hse
      by_cases hs0 : 0 ≤ gI S r
      · obtain ⟨q, hq1, hq2, hq3, hq4⟩ := path_first HCC.out HP.out HN1.out hlt (by rw [HSE.out]; exact hs0)
        rw [HSE.out] at hq3 hq4
        have HQ4 := Lib.hid hq4
        have HQ3 := Lib.hid hq3
        have HPC : Hid ((m : Int) + 1 - (q : Int) = pcI S L (m + 1)) := Lib.hid (by omega)
        clear hq2 hq3 hq4
        generalize hgs : gI S r = s at *
        clear hgs
        have g1 : decide (0 ≤ s) = true := decide_eq_true hs0
        have g2 : decide (s < 0) = false := by simp; omega
        go_wp2_with fail
        go_quiet (fail)
        rename_i nq
        go_wp2_with fail
        refine (slicesIndex_at _ L s q _ (HRL2.out.below (below_drewN (Below.refl _ _) _) (Nat.le_refl _)) (by omega) HQ3.out HQ4.out).mono ?_
        rintro e w4 ⟨rfl, rfl⟩
        have hO2 := hO.below (below_drewN (Below.refl wo.heap.size wo) nq) (Nat.le_refl _)
        have hbl2 := below_drewN hbl nq
        have hsz2 : w2.heap.size ≤ (wo.drewN nq).heap.size := hsz
        obtain ⟨wz, hwz⟩ : ∃ wz : World, wz = wo.drewN nq := ⟨_, rfl⟩
        rw [← hwz] at hO2 hbl2 hsz2 ⊢
        clear hwz hO hbl c1 dL dS
        have wr1 : IntKind.i64.wrap ((m : Int) + 1 - (q : Int)) = (m : Int) + 1 - (q : Int) := IntWalk.i64_in _ (by omega)
        go_wp2_with (at_builtin; refine wpList_push rfl (.tmp 36) (.tmp 38) 24 rfl w2.heap.size 2 i0 Try.underlying24 hi hz0 hz1 hz2 _ (pcL S L m) ((m : Int) + 1 - (q : Int)) rfl hO2 rfl (by rw [hml]; omega) hsz2 ?_; intro v' w5 hown' hkp)
        have hbl3 := hbl2.trans (hkp.below hsz2 (fun g hg => (hO2.block g hg).1))
        rw [HPC.out, ← HY.out] at hown'
        clear hO2 hbl2 hkp
        go_roundw
        case rel => exact ⟨m + 1, by omega, by go_num, hown', hbl3⟩
        case measure => simp [intOf]; omega
      · have HPC : Hid (0 = pcI S L (m + 1)) := Lib.hid (pcI_no (by rw [HSE.out]; omega)).symm
        generalize hgs : gI S r = s at *
        clear hgs
        have g1 : decide (0 ≤ s) = false := by simp; omega
        have g2 : decide (s < 0) = true := by simp; omega
        go_wp2_with fail
        go_quiet (fail)
        rename_i nq
        have hO2 := hO.below (below_drewN (Below.refl wo.heap.size wo) nq) (Nat.le_refl _)
        have hbl2 := below_drewN hbl nq
        have hsz2 : w2.heap.size ≤ (wo.drewN nq).heap.size := hsz
        obtain ⟨wz, hwz⟩ : ∃ wz : World, wz = wo.drewN nq := ⟨_, rfl⟩
        rw [← hwz] at hO2 hbl2 hsz2 ⊢
        clear hwz hO hbl c1 dL dS
        go_wp2_with (at_builtin; refine wpList_push rfl (.tmp 36) (.tmp 38) 24 rfl w2.heap.size 2 i0 Try.underlying24 hi hz0 hz1 hz2 _ (pcL S L m) 0 rfl hO2 rfl (by rw [hml]; omega) hsz2 ?_; intro v' w5 hown' hkp)
        have hbl3 := hbl2.trans (hkp.below hsz2 (fun g hg => (hO2.block g hg).1))
        rw [HPC.out, ← HY.out] at hown'
        clear hO2 hbl2 hkp
        go_roundw
        case rel => exact ⟨m + 1, by omega, by go_num, hown', hbl3⟩
        case measure => simp [intOf]; omega
    · have hme : m = L.length - 1 := by omega
      rw [hme] at hO
      obtain ⟨ac, kc, hv⟩ := hO.form
      have hpl2 : (pcL S L (L.length - 1)).length = L.length - 1 := pcL_len _ _ _
      rw [hpl2] at hv
      subst hv
      have hrdC := hO.rd
      have D3 := D2.below hbl hDl
      clear hme
      go_wp2_with fail
      refine (curvette_c _ (pcL S L (L.length - 1)) xs c _ hrdC HKC.out HR.out).mono ?_
      rintro e w6 ⟨a6, k6, rfl, hO6, hb6⟩
      have hx6 := hxo.trans hb6
      have D6 := D3.stays hb6
      have e0 := D6.cell 0
      have f0 := D6.free 0
      have q0 := (D6.set 0 (.slice a6 xs.length k6)).cell 0
      have hs6 := hb6.size
      have hfin : RetBC w xs c (.returned (.tuple #[.agg #[.slice a6 xs.length k6], .int .i64 c])) (w6.setCell ⟨w.heap.size + 1, 0, none⟩ (.slice a6 xs.length k6)) :=
        retBC_of ((hO6.other (g := w.heap.size + 1) (fun q hq => by have := (hO6.block q hq).1; omega) 0 (.slice a6 xs.length k6)).base_le (by omega)) (hx6.below.setCell (p := ⟨w.heap.size + 1, 0, none⟩) (by show w.heap.size ≤ w.heap.size + 1; omega) (.slice a6 xs.length k6))
      clear hO6 hrdC hO
      go_wp2
      exact bodyPost_ret (v := .tuple #[.agg #[.slice a6 xs.length k6], .int .i64 c]) (by simp [results, Try.results208, go_sem, q0]) rfl hfin

set_option maxRecDepth 100000 in
set_option maxHeartbeats 8000000 in
theorem l08Code_c (p s q u : Value) (P S W L : List Int) (n : Int) (w : World) (hp : Rd w p P) (hs : Rd w s S) (hq : Rd w q W) (hu : Rd w u L) (hc : CluOk P S W) (hP : PathOk P L n) (hn1 : n < (P.length : Int)) (hl : L.length ≤ 25) :
    Calls Try.prog 206 #[.agg #[p, s, q], u] w (RetI w (pcL S L (L.length - 1))) := by
  obtain ⟨i0, hi, hz0, hz1, hz2⟩ := info_parts Try.infoI
  obtain ⟨a1, k1, rfl⟩ := hp.len0
  obtain ⟨a2, k2, rfl⟩ := hs.len0
  obtain ⟨a3, k3, rfl⟩ := hq.len0
  obtain ⟨aL, kL, rfl⟩ := hu.len0
  obtain ⟨w2, hw2⟩ : ∃ w2 : World, w.alloc (.cells #[.slice a1 P.length k1, .slice a2 S.length k2, .slice a3 W.length k3] 40) = w2 := ⟨_, rfl⟩
  have hx := Boxed.start w 40 #[.slice a1 P.length k1, .slice a2 S.length k2, .slice a3 W.length k3]
  rw [hw2] at hx
  have HX := Lib.hid hx
  have HCC := Lib.hid hc
  have HSL := Lib.hid hc.1.2.2.1
  have hP24 := hc.1.2.1
  have HN1 := Lib.hid hn1
  have HP := Lib.hid hP
  have HL25 := Lib.hid hl
  have hL1 := hP.len
  have HRL := Lib.hid (hx.rd hu)
  have HW2 := Lib.hid hw2
  have HS2 : Hid (w.heap.size + 1 = w2.heap.size) := Lib.hid (by rw [← hw2]; simp)
  have hal : Below w2.heap.size w2 (w2.alloc (.cells #[] 2)) := (Below.refl _ _).alloc (Nat.le_refl _) _
  clear hP hw2
  go_enter Try.func206, Try.ntmps206
  go_wp2_with fail
  rw [HW2.out]
  go_loopw [5, 6, 7, 8] (fun cv jv _ _ wr => ∃ m : Nat, m + 1 ≤ L.length ∧ jv = .int .i64 ((m : Int) + 1) ∧ OwnI wr w2.heap.size cv (pcL S L m) ∧ Below w2.heap.size w2 wr) (fun _ jv _ _ _ => L.length - (intOf jv).toNat)
  case atStart => exact ⟨0, by omega, by simp, by rw [HS2.out]; exact own_empty w2 _ (Nat.le_refl _), hal⟩
  case round =>
    obtain ⟨m, hm, rfl, hO, hbl⟩ := hrel
    obtain ⟨wo, rfl⟩ : ∃ wo : World, wo = wr := ⟨_, rfl⟩
    have hsz := hbl.size
    have hxo := HX.out.trans hbl
    by_cases hlt : m + 1 < L.length
    · have hnum := HP.out.num (m + 1) hlt
      obtain ⟨r, hr⟩ := Int.eq_ofNat_of_zero_le hnum.1
      have hrl : r < P.length := by have := HN1.out; omega
      have hse : seL S L (m + 1) = gI S r := by unfold seL; rw [hr]; rfl
      obtain ⟨bL, oL, cL, heL, _, _, hbL, hcL⟩ := (HRL.out.below hbl (Nat.le_refl _)).cells (by omega)
      injection heL with he1 he2 he3
      subst he1 he3
      have dL := hcL (m + 1) hlt
      rw [hr] at dL
      obtain ⟨bS, oS, cS, heS, _, _, hbS, hcS⟩ := (hxo.rd hs).cells (by rw [HSL.out]; omega)
      injection heS with he1 he4 he3
      subst he1 he3
      have dS := hcS r (by rw [HSL.out]; exact hrl)
      have c1 := hxo.cell 1
      have HY := Lib.hid (pcL_succ S L m)
      have hml : (pcL S L m).length = m := pcL_len _ _ _
      have hmb : m ≤ 25 := by have := HL25.out; omega
      have HRL2 := Lib.hid (HRL.out.below hbl (Nat.le_refl _))
      have f1 : (m : Int) + 1 < (L.length : Int) := by omega
      have f2 : (0 : Int) ≤ (m : Int) + 1 := by omega
      have f3 : ((m : Int) + 1).toNat = m + 1 := by omega
      have f4 : (r : Int) < (P.length : Int) := by omega
      have f5 : (0 : Int) ≤ (r : Int) := by omega
      have f6 : (r : Int) < (S.length : Int) := by rw [HSL.out]; exact f4
      have HSE := Lib.hid hse
      clear hnum hr hcL hcS he2 he4 hse
      by_cases hs0 : 0 ≤ gI S r
      · obtain ⟨q, hq1, hq2, hq3, hq4⟩ := path_first HCC.out HP.out HN1.out hlt (by rw [HSE.out]; exact hs0)
        rw [HSE.out] at hq3 hq4
        have HQ4 := Lib.hid hq4
        have HQ3 := Lib.hid hq3
        have HPC : Hid ((m : Int) + 1 - (q : Int) = pcI S L (m + 1)) := Lib.hid (by omega)
        clear hq2 hq3 hq4
        generalize hgs : gI S r = s at *
        clear hgs
        have g1 : decide (0 ≤ s) = true := decide_eq_true hs0
        have g2 : decide (s < 0) = false := by simp; omega
        go_wp2_with fail
        go_quiet (fail)
        rename_i nq
        go_wp2_with fail
        refine (l01Index_at _ L s q _ (HRL2.out.below (below_drewN (Below.refl _ _) _) (Nat.le_refl _)) (by omega) HQ3.out HQ4.out).mono ?_
        rintro e w4 ⟨rfl, rfl⟩
        have hO2 := hO.below (below_drewN (Below.refl wo.heap.size wo) nq) (Nat.le_refl _)
        have hbl2 := below_drewN hbl nq
        have hsz2 : w2.heap.size ≤ (wo.drewN nq).heap.size := hsz
        obtain ⟨wz, hwz⟩ : ∃ wz : World, wz = wo.drewN nq := ⟨_, rfl⟩
        rw [← hwz] at hO2 hbl2 hsz2 ⊢
        clear hwz hO hbl c1 dL dS
        have wr1 : IntKind.i64.wrap ((m : Int) + 1 - (q : Int)) = (m : Int) + 1 - (q : Int) := IntWalk.i64_in _ (by omega)
        go_wp2_with (at_builtin; refine wpList_push rfl (.tmp 31) (.tmp 33) 24 rfl w2.heap.size 2 i0 Try.underlying24 hi hz0 hz1 hz2 _ (pcL S L m) ((m : Int) + 1 - (q : Int)) rfl hO2 rfl (by rw [hml]; omega) hsz2 ?_; intro v' w5 hown' hkp)
        have hbl3 := hbl2.trans (hkp.below hsz2 (fun g hg => (hO2.block g hg).1))
        rw [HPC.out, ← HY.out] at hown'
        clear hO2 hbl2 hkp
        go_roundw
        case rel => exact ⟨m + 1, by omega, by go_num, hown', hbl3⟩
        case measure => simp [intOf]; omega
      · have HPC : Hid (0 = pcI S L (m + 1)) := Lib.hid (pcI_no (by rw [HSE.out]; omega)).symm
        generalize hgs : gI S r = s at *
        clear hgs
        have g1 : decide (0 ≤ s) = false := by simp; omega
        have g2 : decide (s < 0) = true := by simp; omega
        go_wp2_with fail
        go_quiet (fail)
        rename_i nq
        have hO2 := hO.below (below_drewN (Below.refl wo.heap.size wo) nq) (Nat.le_refl _)
        have hbl2 := below_drewN hbl nq
        have hsz2 : w2.heap.size ≤ (wo.drewN nq).heap.size := hsz
        obtain ⟨wz, hwz⟩ : ∃ wz : World, wz = wo.drewN nq := ⟨_, rfl⟩
        rw [← hwz] at hO2 hbl2 hsz2 ⊢
        clear hwz hO hbl c1 dL dS
        go_wp2_with (at_builtin; refine wpList_push rfl (.tmp 31) (.tmp 33) 24 rfl w2.heap.size 2 i0 Try.underlying24 hi hz0 hz1 hz2 _ (pcL S L m) 0 rfl hO2 rfl (by rw [hml]; omega) hsz2 ?_; intro v' w5 hown' hkp)
        have hbl3 := hbl2.trans (hkp.below hsz2 (fun g hg => (hO2.block g hg).1))
        rw [HPC.out, ← HY.out] at hown'
        clear hO2 hbl2 hkp
        go_roundw
        case rel => exact ⟨m + 1, by omega, by go_num, hown', hbl3⟩
        case measure => simp [intOf]; omega
    · have hme : m = L.length - 1 := by omega
      rw [hme] at hO
      have hret := retI_mk (hO.base_le (base' := w.heap.size) (Nat.le_of_lt HX.out.size)) hxo.below
      have HF := Lib.hid hret
      clear hO hret hme
      go_wp2
      go_ret
      exact HF.out
end Go.Proofs.Ytibfigmnoamheaa
