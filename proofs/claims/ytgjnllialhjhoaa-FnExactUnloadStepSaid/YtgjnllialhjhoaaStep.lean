/- Contracts: spec.l08Step: a point is unloaded. -/
import Derived.Test.YtgjnllialhjhoaaLeast
import Derived.Test.YtgjnllialhjhoaaWith
namespace Go.Proofs.Ytgjnllialhjhoaa
open Go.RowKit

/-- The weights while the point p is raised by s: the points before t are done. -/
def spTo (P S L : List Int) (p : Nat) (s : Int) (t : Nat) : List Int := lF P.length fun i => gI L i + (if i = p then s else 0) - (if i < t then nB P S i p * s else 0)
@[simp] theorem spTo_len (P S L : List Int) (p : Nat) (s : Int) (t : Nat) : (spTo P S L p s t).length = P.length := by simp [spTo]
theorem gI_spTo {P S L : List Int} {p : Nat} {s : Int} {t i : Nat} (h : i < P.length) : gI (spTo P S L p s t) i = gI L i + (if i = p then s else 0) - (if i < t then nB P S i p * s else 0) := gI_lF h
theorem spTo_zero {P S L : List Int} {p : Nat} {s : Int} (hp : p < P.length) (hl : L.length = P.length) : L.set p (gI L p + s) = spTo P S L p s 0 := by
  apply gI_ext (by simp [hl])
  intro i hi
  have hi' : i < P.length := by simp at hi; omega
  rw [gI_spTo hi', gI_set, if_neg (show ¬ i < 0 by omega)]
  by_cases e : p = i
  · subst e; rw [if_pos ⟨rfl, by omega⟩, if_pos rfl]; omega
  · rw [if_neg (fun h => e h.1), if_neg (fun h => e h.symm)]; omega
theorem spTo_yes {P S L : List Int} {p : Nat} {s : Int} {t : Nat} (ht : t < P.length) (hn : nearB P S t (p : Int) = true) : (spTo P S L p s t).set t (gI L t + (if t = p then s else 0) - s) = spTo P S L p s (t + 1) := by
  have h1 : nB P S t p = 1 := by unfold nB; rw [if_pos hn]
  apply gI_ext (by simp)
  intro i hi
  have hi' : i < P.length := by simpa using hi
  rw [gI_set, gI_spTo hi', gI_spTo hi', spTo_len]
  by_cases e : t = i
  · subst e; rw [if_pos ⟨rfl, ht⟩, if_pos (show t < t + 1 by omega), h1]; omega
  · rw [if_neg (fun h => e h.1)]
    by_cases e2 : i < t
    · rw [if_pos e2, if_pos (show i < t + 1 by omega)]
    · rw [if_neg e2, if_neg (show ¬ i < t + 1 by omega)]
theorem spTo_no {P S L : List Int} {p : Nat} {s : Int} {t : Nat} (hn : nearB P S t (p : Int) = false) : spTo P S L p s t = spTo P S L p s (t + 1) := by
  have h1 : nB P S t p = 0 := by unfold nB; rw [if_neg (by simp [hn])]
  apply gI_ext (by simp)
  intro i hi
  have hi' : i < P.length := by simpa using hi
  rw [gI_spTo hi', gI_spTo hi']
  by_cases e : t = i
  · subst e; rw [if_neg (show ¬ t < t by omega), if_pos (show t < t + 1 by omega), h1]; omega
  · by_cases e2 : i < t
    · rw [if_pos e2, if_pos (show i < t + 1 by omega)]
    · rw [if_neg e2, if_neg (show ¬ i < t + 1 by omega)]
theorem spTo_all (P S L : List Int) (p : Nat) (s : Int) : spTo P S L p s P.length = lF P.length (stF P S (fun i => gI L i) p s) := by
  apply gI_ext (by simp)
  intro i hi
  have hi' : i < P.length := by simpa using hi
  rw [gI_spTo hi', gI_lF hi', if_pos hi']
  rfl
theorem nB_near (P S : List Int) (t p : Nat) : nB P S t p = if nearB P S t (p : Int) then 1 else 0 := rfl
theorem upS_tdiv {e h : Int} (he : e < 0) (hh : 0 ≤ h) : Int.tdiv (-e + h) (1 + h) = upS e h := Int.tdiv_eq_ediv_of_nonneg (by omega)
theorem upS_bd {e h : Int} (he : e < 0) (hh : 0 ≤ h) : 1 ≤ upS e h ∧ upS e h ≤ -e + h := by
  refine ⟨upS_pos he hh, ?_⟩
  unfold upS
  exact Int.ediv_le_self _ (by omega)

set_option maxRecDepth 100000 in
set_option maxHeartbeats 4000000 in
theorem l08Step_c (p s q : Value) (a3 : Option Addr) (n3 k3 : Nat) (v : Value) (P S W L : List Int) (t : Nat) (w : World) (hp : Rd w p P) (hs : Rd w s S) (hqe : q = .slice a3 n3 k3) (hv : Rd w v L) (hc : CluOk P S W) (hl : L.length = P.length)
    (hL : ∀ i, i < L.length → -1000000000000 ≤ gI L i ∧ gI L i ≤ 1000000000000) (ht : t < P.length) (hneg : gI (exL P S L) t < 0) :
    Calls Try.prog 97 #[.agg #[p, s, q], v, .int .i64 (t : Int)] w (RetL P.length w (stL P S L t)) := by
  subst hqe
  have hx := Boxed.start w 51 #[p, s, .slice a3 n3 k3]
  obtain ⟨a1, k1, rfl⟩ := hp.len0
  obtain ⟨a2, k2, rfl⟩ := hs.len0
  obtain ⟨a4, k4, rfl⟩ := hv.len0
  have HL := Lib.hid hl
  have HC := Lib.hid hc
  have HB := Lib.hid hL
  have h0 := hc.1.1
  have h24 := hc.1.2.1
  have hcl1 := Lib.hid (show S.length = P.length from hc.1.2.2.1)
  have hLp : 0 < L.length := by omega
  have hLn : L.length ≤ 1000000 := by omega
  have hE := exF_bd (P := P) (S := S) (A := fun i => gI L i) (b := 1000000000000) h24 (fun i hi => hL i (by omega)) ht
  rw [← exL_at hc hl ht] at hE
  have hh := hB_bd P S t h24
  have hEl : (exTo (proxL P S) L P.length).length = P.length := by rw [exTo_len]; exact hl
  have hEe : gI (exTo (proxL P S) L P.length) t = gI (exL P S L) t := rfl
  have hEe := Lib.hid hEe
  have HST := Lib.hid (show stL P S L t = spTo P S L t (upS (gI (exL P S L) t) (hB P S t)) P.length from (spTo_all _ _ _ _ _).symm)
  have HEl := Lib.hid hEl
  clear hl hc hL hEl
  have hti : (t : Int) < (P.length : Int) := by omega
  have ht0 : (0 : Int) ≤ (t : Int) := Int.natCast_nonneg _
  go_enter Try.func97, Try.ntmps97
  go_wp2_with fail
  refine (l01Own_c _ L _ (hx.rd hv) hLp hLn).mono ?_
  rintro e w1 ⟨a, k, rfl, ho, hb⟩
  obtain ⟨g, gc, hge, hg0, hg1, _, _⟩ := Own.pos ho hLp
  injection hge with hgea hgeb hgec
  subst hgea hgec
  clear hgeb
  rw [HL.out] at ho hv ⊢
  have hx1 := hx.trans hb
  have hgw : w.heap.size + 1 ≤ g := by simpa using hg0
  have ho := ho.base_le (base' := w.heap.size + 1) (by simp)
  have c0 := hx1.cell 0
  have c1 := hx1.cell 1
  have c2 := hx1.cell 2
  clear hg0 hg1 hx hb
  go_wp2_with fail
  refine (l07Excess_c _ _ _ _ P S W L _ (hx1.rd hp) (hx1.rd hs) (hx1.rd hv) HC.out HL.out HB.out).mono ?_
  rintro e w2 ⟨b, kb, rfl, hoe, hb2⟩
  obtain ⟨ge, gce, hge, hge0, hge1, _, _⟩ := Own.pos hoe (by rw [HEl.out]; exact h0)
  injection hge with hgea hgeb hgec
  subst hgea hgec
  clear hgeb
  have de := hoe.cell t (by rw [HEl.out]; exact ht)
  rw [hEe.out] at de
  rw [HEl.out]
  have ho2 := ho.below hb2 (Nat.le_refl _)
  have hx2 := hx1.trans hb2
  clear ho hx1 hoe hb2 c0 c1 c2 hge0 hge1
  generalize gI (exL P S L) t = ex at hneg hE de HST
  obtain ⟨hE1, hE2⟩ := hE
  go_wp2
  go_loopw [8, 10] (fun hv jv wr => ∃ j : Nat, j ≤ P.length ∧ jv = .int .i64 j ∧ hv = .int .i64 (sumTo (fun j => nB P S j t) j) ∧ OwnI wr (w.heap.size + 1) (.slice (some ⟨g, 0, none⟩) P.length k) L ∧ Boxed w wr 51 #[.slice a1 P.length k1, .slice a2 S.length k2, .slice a3 n3 k3]) (fun _ jv _ => P.length - (intOf jv).toNat)
  case atStart => exact ⟨0, Nat.zero_le _, rfl, rfl, ho2, hx2⟩
  case round =>
    obtain ⟨j, hj, rfl, rfl, ho3, hx3⟩ := hrel
    clear ho2 hx2 de
    obtain ⟨wo, rfl⟩ : ∃ wo : World, wo = wr := ⟨_, rfl⟩
    by_cases hjt : j < P.length
    · have hji : (j : Int) < (P.length : Int) := by omega
      have c0 := hx3.cell 0
      have c1 := hx3.cell 1
      have c2 := hx3.cell 2
      have hsb := sumTo_bound (f := fun j => nB P S j t) (n := j) 0 1 (fun i _ => by rcases nB_01 P S i t with h | h <;> omega)
      have HS := Lib.hid (sumTo_succ (fun j => nB P S j t) j)
      go_wp2_with fail
      refine (l07Near_c _ _ _ P S (j : Int) (t : Int) _ (hx3.rd hp) (hx3.rd hs) hcl1.out (by omega) (by omega)).mono ?_
      rintro e w3 ⟨rfl, hb3⟩
      have ho4 := ho3.below hb3 (Nat.le_refl _)
      have hx4 := hx3.trans hb3
      clear c0 c1 c2 ho3 hx3
      have e0 : (j : Int).toNat = j := by omega
      rw [e0]
      clear e0
      cases hnb : nearB P S j (t : Int)
      · have h1 := Lib.hid (show nB P S j t = 0 by rw [nB_near, hnb]; rfl)
        go_wp2
        go_roundw
        case rel => exact ⟨j + 1, by omega, by go_num, by rw [HS.out, h1.out, Int.add_zero], ho4, hx4⟩
        case measure => simp [intOf]; omega
      · have h1 := Lib.hid (show nB P S j t = 1 by rw [nB_near, hnb]; rfl)
        generalize sumTo (fun j => nB P S j t) j = z at hsb HS
        have z1 : 0 ≤ z := by omega
        have z2 : z ≤ 100 := by omega
        clear hsb
        go_wp2
        go_roundw
        case rel => exact ⟨j + 1, by omega, by go_num, by rw [HS.out, h1.out], ho4, hx4⟩
        case measure => simp [intOf]; omega
    · have hj' : j = P.length := by omega
      subst hj'
      have hBe : sumTo (fun j => nB P S j t) P.length = hB P S t := rfl
      rw [hBe]
      clear hBe
      have HTD := Lib.hid (upS_tdiv hneg hh.1)
      have hub := upS_bd hneg hh.1
      have hLt := HB.out t (by rw [HL.out]; exact ht)
      have hO : OwnI wo (w.heap.size + 1) (.slice (some ⟨g, 0, none⟩) L.length k) L := by rw [HL.out]; exact ho3
      have dz := hO.cell t (by rw [HL.out]; exact ht)
      have fz := hO.free t
      have hset := hO.set t (gI L t + upS ex (hB P S t))
      rw [HL.out, spTo_zero (S := S) ht HL.out] at hset
      have hk5 : Keeps (fun b => b = g) wo (wo.setCell ⟨g, t, none⟩ (.int .i64 (gI L t + upS ex (hB P S t)))) := (Keeps.refl (fun b => b = g) _).setCell (p := ⟨g, t, none⟩) rfl _
      have hx5 := hx3.wrote (hk5.mono (fun b hb => by omega))
      have HS := Lib.hid hset
      have HX := Lib.hid hx5
      clear hset hx5 hk5 hO ho3 hx3
      generalize hB P S t = hb at hh HTD hub HS HX HST
      generalize gI L t = z at dz hLt HS HX
      obtain ⟨hh1, hh2⟩ := hh
      obtain ⟨u1, u2⟩ := hub
      obtain ⟨z1, z2⟩ := hLt
      have w1' : IntKind.i64.wrap (-ex) = -ex := IntWalk.i64_in _ (by omega)
      have w2' : IntKind.i64.wrap (-ex + hb) = -ex + hb := IntWalk.i64_in _ (by omega)
      have w3' : IntKind.i64.wrap (1 + hb) = 1 + hb := IntWalk.i64_in _ (by omega)
      have w5' : ¬ (1 + hb) = 0 := by omega
      have w4' : IntKind.i64.wrap (Int.tdiv (-ex + hb) (1 + hb)) = upS ex hb := by rw [HTD.out]; exact IntWalk.i64_in _ (by omega)
      clear HTD
      generalize upS ex hb = sv at u1 u2 w4' HS HX HST
      have s1 : sv ≤ 100000000000000 := by omega
      clear u2
      go_wp2
      go_loopw [12] (fun jv wr => ∃ j : Nat, j ≤ P.length ∧ jv = .int .i64 j ∧ OwnI wr (w.heap.size + 1) (.slice (some ⟨g, 0, none⟩) P.length k) (spTo P S L t sv j) ∧ Boxed w wr 51 #[.slice a1 P.length k1, .slice a2 S.length k2, .slice a3 n3 k3]) (fun jv _ => P.length - (intOf jv).toNat)
      case atStart => exact ⟨0, Nat.zero_le _, rfl, HS.out, HX.out⟩
      case round =>
        obtain ⟨j, hj, rfl, ho6, hx6⟩ := hrel
        clear HS HX dz fz
        obtain ⟨wq, rfl⟩ : ∃ wq : World, wq = wr := ⟨_, rfl⟩
        by_cases hjt : j < P.length
        · have hji : (j : Int) < (P.length : Int) := by omega
          have c0 := hx6.cell 0
          have c1 := hx6.cell 1
          have c2 := hx6.cell 2
          go_wp2_with fail
          refine (l07Near_c _ _ _ P S (j : Int) (t : Int) _ (hx6.rd hp) (hx6.rd hs) hcl1.out (by omega) (by omega)).mono ?_
          rintro e w3 ⟨rfl, hb3⟩
          have ho7 := ho6.below hb3 (Nat.le_refl _)
          have hx7 := hx6.trans hb3
          clear c0 c1 c2 ho6 hx6
          have e0 : (j : Int).toNat = j := by omega
          rw [e0]
          clear e0
          cases hnb : nearB P S j (t : Int)
          · have h1 := Lib.hid (spTo_no (L := L) (s := sv) hnb)
            go_wp2
            go_roundw
            case rel => exact ⟨j + 1, by omega, by go_num, by rw [← h1.out]; exact ho7, hx7⟩
            case measure => simp [intOf]; omega
          · have h1 := Lib.hid (spTo_yes (L := L) (s := sv) hjt hnb)
            have hlj := HB.out j (by rw [HL.out]; exact hjt)
            have hO7 : OwnI w3 (w.heap.size + 1) (.slice (some ⟨g, 0, none⟩) (spTo P S L t sv j).length k) (spTo P S L t sv j) := by rw [spTo_len]; exact ho7
            have dy := hO7.cell j (by rw [spTo_len]; exact hjt)
            rw [gI_spTo hjt, if_neg (show ¬ j < j by omega), Int.sub_zero] at dy
            have fy := hO7.free j
            have hset7 := hO7.set j (gI L j + (if j = t then sv else 0) - sv)
            rw [h1.out, spTo_len] at hset7
            have hx8 := hx7.wrote (((Keeps.refl (fun b => b = g) w3).setCell (p := ⟨g, j, none⟩) rfl (.int .i64 (gI L j + (if j = t then sv else 0) - sv))).mono (fun b hb => by omega))
            have HS8 := Lib.hid hset7
            have HX8 := Lib.hid hx8
            generalize hy : gI L j + (if j = t then sv else 0) = y at dy HS8 HX8
            have y1 : -1000000000000 ≤ y := by rw [← hy]; split <;> omega
            have y2 : y ≤ 200000000000000 := by rw [← hy]; split <;> omega
            clear hset7 hx8 hy hO7 ho7 hx7
            go_wp2
            go_roundw
            case rel => exact ⟨j + 1, by omega, by go_num, HS8.out, HX8.out⟩
            case measure => simp [intOf]; omega
        · have hj' : j = P.length := by omega
          subst hj'
          rw [← HST.out] at ho6
          go_wp2
          go_ret
          exact ⟨_, _, rfl, ho6.base_le (by omega), hx6.below⟩
end Go.Proofs.Ytgjnllialhjhoaa
