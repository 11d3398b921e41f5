/- Contracts: spec.l07Meet: the reference's intersection matrix. -/
import Derived.Test.YthfdkigljbdogaaEm
namespace Go.Proofs.Ythfdkigljbdogaa
open Go.RowKit

def emTo (P S : List Int) (i k : Nat) : List Int := (List.range k).map fun c => emI P S i c P.length
@[simp] theorem emTo_len (P S : List Int) (i k : Nat) : (emTo P S i k).length = k := by simp [emTo]
theorem emTo_succ (P S : List Int) (i k : Nat) : emTo P S i (k + 1) = emTo P S i k ++ [emI P S i k P.length] := by simp [emTo, List.range_succ]
theorem emTo_all (P S : List Int) (i : Nat) : emTo P S i P.length = emRow P S i := rfl

set_option maxRecDepth 100000 in
set_option maxHeartbeats 4000000 in
theorem l07Meet_c (p s q : Value) (P S W : List Int) (w : World) (hp : Rd w p P) (hs : Rd w s S) (hq : Rd w q W) (hc : CluOk P S W) :
    Calls Try.prog 120 #[.agg #[p, s, q]] w (RetM 2 w ((List.range P.length).map (emRow P S))) := by
  obtain ⟨i0, hi, hz0, hz1, hz2⟩ := info_parts Try.infoI
  obtain ⟨j0, ji, jz0, jz1, jz2⟩ := info_parts Try.infoII
  have hx := Boxed.start w 47 #[p, s, q]
  have h0 := hc.1.1
  have h24 := hc.1.2.1
  have HC := Lib.hid hc
  clear hc
  have c0 := hx.cell 0
  have c1 := hx.cell 1
  have c2 := hx.cell 2
  go_enter Try.func120, Try.ntmps120
  go_wp2_with fail
  refine (l07Prox_m _ _ _ P S W _ (hx.rd hp) (hx.rd hs) (hx.rd hq) HC.out).mono ?_
  rintro e w1 ⟨a, kp, Vp, rfl, hop, hb1⟩
  have hx1 := hx.trans hb1
  have hs1 : w.heap.size + 1 ≤ w1.heap.size := hx1.size
  rcases hop.shape with ⟨_, e2⟩ | ⟨gp, cp, e1, _, hgp, _, _, hcells⟩
  · have := congrArg List.length e2; rw [pmL_len, List.length_nil] at this; omega
  injection e1 with e11 e12 e13
  subst e11 e13
  clear e12 c0 c1 c2
  rw [pmL_len] at hcells hop ⊢
  have hprow : ∀ j, j < P.length → ∃ gj cj, Vp j = .slice (some ⟨gj, 0, none⟩) P.length cj ∧ gj < w1.heap.size ∧ ∀ c, c < P.length → w1.cell? ⟨gj, c, none⟩ = some (.int .i64 (gI (pmRow P S P.length j) c)) := fun j hj => by
    have hr := hop.row j (by rw [pmL_len]; exact hj)
    have e : gR (pmL P S) j = pmRow P S P.length j := gR_map hj
    rw [e] at hr
    obtain ⟨gj, cj, e1, _, e3, _⟩ := Own.pos hr (by simp; omega)
    rw [e1] at hr
    refine ⟨gj, cj, by rw [e1, pmRow_len], e3, fun c hcc => hr.cell c (by simpa using hcc)⟩
  have hgE := GrowM.empty 2 22 w1 w1.heap.size w1.heap.size rfl (Nat.le_refl _)
  have hbE : Below w1.heap.size w1 (w1.alloc (.cells #[] 22)) := (Below.refl _ _).alloc (Nat.le_refl _) _
  have HOP := Lib.hid hprow
  clear hop hprow hx
  go_wp2
  go_loopw [4, 5, 6, 7, 8, 9] (fun v i _ _ _ _ wr => ∃ t : Nat, ∃ vs, t ≤ P.length ∧ i = .int .i64 t ∧ GrowM 2 22 wr w1.heap.size v vs ((List.range t).map (emRow P S)) ∧ Below w1.heap.size w1 wr) (fun _ i _ _ _ _ _ => P.length - (intOf i).toNat)
  case atStart => exact ⟨0, _, Nat.zero_le _, rfl, hgE, hbE⟩
  case round =>
    obtain ⟨t, vs, ht, rfl, hgr, hbl⟩ := hrel
    clear hgE hbE
    obtain ⟨wo, rfl⟩ : ∃ wo : World, wo = wr := ⟨_, rfl⟩
    by_cases hlt : t < P.length
    · have hti : (t : Int) < (P.length : Int) := by omega
      have hblk : ∀ b, OwnM.mine u4 (fun i => vs.getD i (.slice none 0 0)) ((List.range t).map (emRow P S)) b → w1.heap.size ≤ b ∧ b < wo.heap.size := hgr.own.block
      have hal : Below wo.heap.size wo (wo.alloc (.cells #[] 2)) := (Below.refl _ _).alloc (Nat.le_refl _) _
      have hoE := own_empty wo wo.heap.size (Nat.le_refl _)
      have hgr2 := hgr.below hal
      have hbl2 := below_step hbl hal
      have hsz := hbl.size
      go_wp2
      go_loopw [6, 7, 8, 9] (fun rv kk _ _ wr => ∃ k : Nat, k ≤ P.length ∧ kk = .int .i64 k ∧ OwnI wr wo.heap.size rv (emTo P S t k) ∧ GrowM 2 22 wr w1.heap.size u4 vs ((List.range t).map (emRow P S)) ∧ Below w1.heap.size w1 wr ∧ wo.heap.size ≤ wr.heap.size) (fun _ kk _ _ _ => P.length - (intOf kk).toNat)
      case atStart => exact ⟨0, Nat.zero_le _, rfl, hoE, hgr2, hbl2, by simp⟩
      case round =>
        obtain ⟨k, hk, rfl, hor, hgr3, hbl3, hqo⟩ := hrel
        clear hoE hgr2 hbl2 hgr hbl hal
        obtain ⟨wq, rfl⟩ : ∃ wq : World, wq = wr := ⟨_, rfl⟩
        by_cases hkt : k < P.length
        · have hki : (k : Int) < (P.length : Int) := by omega
          go_wp2
          go_loopw [8, 9] (fun sm jj wr => ∃ j : Nat, j ≤ P.length ∧ jj = .int .i64 j ∧ sm = .int .i64 (emI P S t k j) ∧ Drew wq wr) (fun _ jj _ => P.length - (intOf jj).toNat)
          case atStart => exact ⟨0, Nat.zero_le _, rfl, rfl, Drew.refl _⟩
          case round =>
            obtain ⟨j, hj, rfl, rfl, hd⟩ := hrel
            obtain ⟨wt, rfl⟩ : ∃ wt : World, wt = wr := ⟨_, rfl⟩
            by_cases hjt : j < P.length
            · have hji : (j : Int) < (P.length : Int) := by omega
              have hbt := below_step hbl3 (hd.below wq.heap.size)
              obtain ⟨gj, cj, hV, hgj, hcj⟩ := HOP.out j hjt
              have d3 : wt.cell? ⟨gp, j, none⟩ = some (Vp j) := by rw [hbt.cell (p := ⟨gp, j, none⟩) hgp]; exact hcells j hjt
              rw [hV] at d3
              have dx : wt.cell? ⟨gj, t, none⟩ = some (.int .i64 (gI (pmRow P S P.length j) t)) := by rw [hbt.cell (p := ⟨gj, t, none⟩) hgj]; exact hcj t hlt
              have dy : wt.cell? ⟨gj, k, none⟩ = some (.int .i64 (gI (pmRow P S P.length j) k)) := by rw [hbt.cell (p := ⟨gj, k, none⟩) hgj]; exact hcj k hkt
              have bx := pm_one P S j t
              have bY := pm_one P S j k
              have bz := emI_bd P S t k j
              have HS := Lib.hid (emI_succ P S t k j)
              clear hcj
              generalize emI P S t k j = z at bz HS
              generalize gI (pmRow P S P.length j) t = x at dx bx HS
              generalize gI (pmRow P S P.length j) k = y at dy bY HS
              have hm := mul_abs_le (B := 1) (C := 1) bx bY
              obtain ⟨m1, m2⟩ := hm
              have e2 : IntKind.i64.wrap (x * y) = x * y := IntWalk.i64_in _ (by omega)
              have e4 : IntKind.i64.wrap (z - x * y) = z - x * y := IntWalk.i64_in _ (by omega)
              have t0 : (0 : Int) ≤ (t : Int) := Int.natCast_nonneg _
              have k0 : (0 : Int) ≤ (k : Int) := Int.natCast_nonneg _
              have j00 : (0 : Int) ≤ (j : Int) := Int.natCast_nonneg _
              go_wp2
              go_quiet (fail)
              go_wp2
              go_roundw
              case rel => exact ⟨j + 1, by omega, by go_num, by rw [HS.out], by first | exact hd | exact hd.trans (Drew.one _ _) | exact hd.trans (Drew.two _ _ _)⟩
              case measure => simp [intOf]; omega
            · have hj' : j = P.length := by omega
              subst hj'
              have hgr4 := hgr3.below (hd.below wq.heap.size)
              have hor4 := hor.below (hd.below wq.heap.size) (Nat.le_refl _)
              have hbl4 := below_step hbl3 (hd.below wq.heap.size)
              have HY := Lib.hid (emTo_succ P S t k)
              have hel := emTo_len P S t k
              have hel1 : (emTo P S t k).length ≤ 1000000 := by omega
              have hq4 : wo.heap.size ≤ wt.heap.size := by have := hd.size; omega
              clear hel hd
              generalize emI P S t k P.length = z at HY
              go_wp2_with (at_builtin; refine wpList_push rfl (.tmp 49) (.tmp 51) 22 rfl wo.heap.size 2 i0 Try.underlying22 hi hz0 hz1 hz2 u6 (emTo P S t k) z rfl hor4 rfl (by omega) hq4 ?_; intro v' w2 hown' hkp)
              have hgr5 := hgr4.keeps hkp (fun b hb e => by have := (hblk b hb).2; have := (hor4.block b e).1; omega)
              have hbl5 := hbl4.trans (hkp.below (by omega) (fun b e => by have := (hor4.block b e).1; omega))
              rw [← HY.out] at hown'
              go_roundw
              case rel => exact ⟨k + 1, by omega, by go_num, hown', hgr5, hbl5, by have := hkp.size; omega⟩
              case measure => simp [intOf]; omega
        · have hk' : k = P.length := by omega
          subst hk'
          obtain ⟨ua, uk, hu6⟩ := hor.form
          rw [emTo_len] at hu6
          subst hu6
          have hor4 : OwnI wq w1.heap.size (.slice ua P.length uk) (emRow P S t) := hor.base_le (by omega)
          have q1 : Apart (.slice ua P.length uk) u4 := by intro b h1 h2; have := (hblk b (.inl h2)).2; have := (hor.block b h1).1; omega
          have q2 : ∀ i, i < ((List.range t).map (emRow P S)).length → Apart (vs.getD i (.slice none 0 0)) (.slice ua P.length uk) := by intro i hi b h1 h2; have := (hblk b (.inr ⟨i, hi, h1⟩)).2; have := (hor.block b h2).1; omega
          have hl5 : ((List.range t).map (emRow P S)).length = t := by simp
          have q3 : ((List.range t).map (emRow P S)).length ≤ 1000000000 := by rw [hl5]; omega
          have q4 : w1.heap.size ≤ wq.heap.size := by omega
          have HY := Lib.hid (show (List.range t).map (emRow P S) ++ [emRow P S t] = (List.range (t + 1)).map (emRow P S) by rw [List.range_succ, List.map_append]; rfl)
          have HL5 := Lib.hid hl5
          clear hl5
          go_wp2_with (at_builtin; refine wpList_pushR rfl (.tmp 53) (.tmp 55) 52 rfl w1.heap.size 2 22 j0 Try.underlying52 ji jz0 jz1 jz2 u4 vs ((List.range t).map (emRow P S)) (.slice ua P.length uk) (emRow P S t) rfl hgr3 wq.heap.size rfl rfl hor4 q1 q2 q3 q4 ?_; intro g5 cap5 w5 hgr5 hk5 hg5)
          have hbl5 := hbl3.trans (hk5.below (by omega) (fun b hb => (hblk b (.inl hb)).1))
          rw [HY.out, HL5.out] at hgr5
          go_roundw
          case rel => exact ⟨t + 1, _, by omega, by go_num, hgr5, hbl5⟩
          case measure => simp [intOf]; omega
    · go_wp2
      have ht' : t = P.length := by omega
      subst ht'
      go_ret
      exact retM_mk (hgr.own.base_le (by omega)) (hx1.below.trans (hbl.mono (by omega)))
end Go.Proofs.Ythfdkigljbdogaa
