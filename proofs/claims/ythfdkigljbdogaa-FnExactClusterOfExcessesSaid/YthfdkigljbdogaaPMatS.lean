/- Contracts: spec.l07Prox: the reference's proximity matrix. -/
import Derived.Test.YthfdkigljbdogaaPMat
namespace Go.Proofs.Ythfdkigljbdogaa
open Go.RowKit

/-- A row of the reference: the first k places are done. -/
def prTo (P S : List Int) (n i k : Nat) : List Int := (List.range n).map fun j => if j < k ∧ nearB P S i (j : Int) = true then -1 else 0
@[simp] theorem prTo_len (P S : List Int) (n i k : Nat) : (prTo P S n i k).length = n := by simp [prTo]
theorem gI_prTo {P S : List Int} {n i k j : Nat} (h : j < n) : gI (prTo P S n i k) j = if j < k ∧ nearB P S i (j : Int) = true then -1 else 0 := by rw [gI_lt (by simpa using h)]; simp [prTo]
theorem prTo_zero (P S : List Int) (n i : Nat) : prTo P S n i 0 = zeroL n := by
  apply gI_ext (by simp)
  intro j hj
  rw [gI_prTo (by simpa using hj), gI_zeroL, if_neg (by omega)]
theorem prTo_yes {P S : List Int} {n i k : Nat} (hk : k < n) (h : nearB P S i (k : Int) = true) : (prTo P S n i k).set k (-1) = prTo P S n i (k + 1) := by
  apply gI_ext (by simp)
  intro j hj
  have hj' : j < n := by simpa using hj
  rw [gI_set, gI_prTo hj', gI_prTo hj', prTo_len]
  by_cases e : j = k
  · subst e; rw [if_pos ⟨rfl, hk⟩, if_pos ⟨by omega, h⟩]
  · rw [if_neg (fun h' => e h'.1.symm)]
    by_cases e2 : j < k ∧ nearB P S i (j : Int) = true
    · rw [if_pos e2, if_pos ⟨by omega, e2.2⟩]
    · rw [if_neg e2, if_neg (fun h' => e2 ⟨by omega, h'.2⟩)]
theorem prTo_no {P S : List Int} {n i k : Nat} (h : nearB P S i (k : Int) = false) : prTo P S n i k = prTo P S n i (k + 1) := by
  apply gI_ext (by simp)
  intro j hj
  have hj' : j < n := by simpa using hj
  rw [gI_prTo hj', gI_prTo hj']
  by_cases e : j = k
  · subst e; rw [if_neg (by simp [h]), if_neg (by simp [h])]
  · by_cases e2 : j < k ∧ nearB P S i (j : Int) = true
    · rw [if_pos e2, if_pos ⟨by omega, e2.2⟩]
    · rw [if_neg e2, if_neg (fun h' => e2 ⟨by omega, h'.2⟩)]
theorem nearLt {P S W : List Int} (hc : CluOk P S W) {i q : Nat} (hi : i < P.length) (h : nearB P S i (q : Int) = true) : q < i := by
  have h1 := (nearB_iff.1 h).2
  by_cases h0 : i = 0
  · subst h0; have := clu_zero hc; omega
  · have := clu_place hc hi (by omega); omega
theorem prTo_all {P S W : List Int} (hc : CluOk P S W) {i : Nat} (hi : i < P.length) : (prTo P S P.length i i).set i 1 = pmRow P S P.length i := by
  apply gI_ext (by simp)
  intro j hj
  have hj' : j < P.length := by simpa using hj
  rw [gI_set, gI_prTo hj', gI_pmRow hj', prTo_len]
  by_cases e : j = i
  · subst e; rw [if_pos ⟨rfl, hi⟩, if_pos rfl]
  · rw [if_neg (fun h' => e h'.1.symm), if_neg e]
    by_cases e2 : nearB P S i (j : Int) = true
    · rw [if_pos ⟨nearLt hc hi e2, e2⟩, if_pos e2]
    · rw [if_neg (fun h => e2 h.2), if_neg e2]

set_option maxRecDepth 100000 in
set_option maxHeartbeats 2000000 in
theorem l07Prox_c (p s q : Value) (P S W : List Int) (w : World) (hp : Rd w p P) (hs : Rd w s S) (_ : Rd w q W) (hc : CluOk P S W) :
    Calls Try.prog 100 #[.agg #[p, s, q]] w (RetM 2 w ((List.range P.length).map (pmRow P S P.length))) := by
  obtain ⟨i0, hi, hz0, hz1, hz2⟩ := info_parts Try.infoI
  obtain ⟨j0, ji, jz0, jz1, jz2⟩ := info_parts Try.infoII
  obtain ⟨a1, k1, rfl⟩ := hp.len0
  have hx := Boxed.start w 47 #[.slice a1 P.length k1, s, q]
  have h0 := hc.1.1
  have h24 := hc.1.2.1
  have hcl1 := Lib.hid (show S.length = P.length from hc.1.2.2.1)
  have HC := Lib.hid hc
  clear hc
  go_enter Try.func100, Try.ntmps100
  go_wp2
  go_loopw [3, 4, 5, 6] (fun v i _ _ wr => ∃ k : Nat, ∃ vs, k ≤ P.length ∧ i = .int .i64 k ∧ GrowM 2 22 wr (w.heap.size + 1) v vs ((List.range k).map (pmRow P S P.length)) ∧ Boxed w wr 47 #[.slice a1 P.length k1, s, q]) (fun _ i _ _ _ => P.length - (intOf i).toNat)
  case atStart => exact ⟨0, _, Nat.zero_le _, rfl, GrowM.empty _ _ (w.alloc _) _ _ (by simp) (Nat.le_refl _), hx.alloc _⟩
  case round =>
    obtain ⟨k, vs, hk, rfl, hown, hbx⟩ := hrel
    obtain ⟨wo, rfl⟩ : ∃ wo : World, wo = wr := ⟨_, rfl⟩
    have c0 := hbx.cell 0
    by_cases hlt : k < P.length
    · have hki : (k : Int) < (P.length : Int) := by omega
      go_wp2_with (at_make; refine wpList_make_full _ rfl (.tmp 17) (.tmp 17) 22 rfl wo.heap.size 2 i0 (.int .i64 0) 1 Try.underlying22 hi hz0 hz1 _ _ _ _ P.length rfl rfl rfl rfl ?c1 ?c2 ?c3 ?_)
      case c1 => rw [hz2]; omega
      case c2 => unfold maxLen; omega
      case c3 => exact Nat.le_refl _
      intro w2 hown2 hgrow2
      have hb2 : Below wo.heap.size wo w2 := (Below.refl _ _).grown hgrow2 (Nat.le_refl _) (by simp)
      rw [toList_madeCells_one] at hown2
      have ho2 := own_made hown2
      have hg2 := (ho2.block _ rfl).2
      clear hown2 hgrow2 c0
      have hsz := hbx.size
      have hblk : ∀ b, OwnM.mine u3 (fun i => vs.getD i (.slice none 0 0)) ((List.range k).map (pmRow P S P.length)) b → w.heap.size + 1 ≤ b ∧ b < wo.heap.size := hown.own.block
      have hown1 := hown.below hb2
      have hbx1 := hbx.trans hb2
      rw [← prTo_zero P S P.length k] at ho2
      clear hown hbx hb2
      go_wp2_with fail
      go_loopw [6] (fun i wr => ∃ m : Nat, m ≤ k ∧ i = .int .i64 m ∧ OwnI wr wo.heap.size (.slice (some ⟨wo.heap.size, 0, none⟩) P.length P.length) (prTo P S P.length k m) ∧ GrowM 2 22 wr (w.heap.size + 1) u3 vs ((List.range k).map (pmRow P S P.length)) ∧ Boxed w wr 47 #[.slice a1 P.length k1, s, q]) (fun i _ => k - (intOf i).toNat)
      case atStart => exact ⟨0, Nat.zero_le _, rfl, ho2, hown1, hbx1⟩
      case round =>
        obtain ⟨m, hm, rfl, ho, hgr, hbx⟩ := hrel
        clear ho2 hown1 hbx1 hg2
        obtain ⟨wq, rfl⟩ : ∃ wq : World, wq = wr := ⟨_, rfl⟩
        by_cases hmt : m < k
        · have c0 := hbx.cell 0
          have c1 := hbx.cell 1
          have c2 := hbx.cell 2
          have hmi : (m : Int) < (k : Int) := by omega
          go_wp2_with fail
          refine (l07Near_c _ _ _ P S (k : Int) (m : Int) _ (hbx.rd hp) (hbx.rd hs) hcl1.out (by omega) (by omega)).mono ?_
          rintro e w3 ⟨rfl, hb3⟩
          have ho3 := ho.below hb3 (Nat.le_refl _)
          have hgr3 := hgr.below hb3
          have hbx3 := hbx.trans hb3
          clear c0 c1 c2 ho hgr hbx
          cases hnb : nearB P S (k : Int).toNat (m : Int)
          · have hn2 := Lib.hid (prTo_no (n := P.length) (show nearB P S k (m : Int) = false by simpa using hnb))
            go_wp2
            go_roundw
            case rel => exact ⟨m + 1, by omega, by go_num, by rw [← hn2.out]; exact ho3, hgr3, hbx3⟩
            case measure => simp [intOf]; omega
          · have hn2 := Lib.hid (prTo_yes (n := P.length) (by omega) (show nearB P S k (m : Int) = true by simpa using hnb))
            have ho4 : OwnI w3 wo.heap.size (.slice (some ⟨wo.heap.size, 0, none⟩) (prTo P S P.length k m).length P.length) (prTo P S P.length k m) := by simpa using ho3
            have cz := ho4.cell m (by simp; omega)
            have fz := ho4.free m
            have hset := ho4.set m (-1)
            rw [hn2.out, prTo_len] at hset
            have hg3 := (ho3.block wo.heap.size rfl)
            have hk3 : Keeps (fun b => b = wo.heap.size) w3 (w3.setCell ⟨wo.heap.size, m, none⟩ (.int .i64 (-1))) := (Keeps.refl (fun b => b = wo.heap.size) _).setCell (p := ⟨wo.heap.size, m, none⟩) rfl _
            have hgr4 := hgr3.keeps hk3 (fun b hb e => by have := (hblk b hb).2; omega)
            have hbx4 := hbx3.wrote (hk3.mono (fun b hb => by omega))
            have HS := Lib.hid hset
            have HG := Lib.hid hgr4
            have HB := Lib.hid hbx4
            have hmn : (m : Int) < (P.length : Int) := by omega
            clear ho3 ho4 hgr3 hbx3 hset hgr4 hbx4 hk3
            generalize gI (prTo P S P.length k m) m = y at cz
            go_wp2
            go_roundw
            case rel => exact ⟨m + 1, by omega, by go_num, HS.out, HG.out, HB.out⟩
            case measure => simp [intOf]; omega
        · have hm' : m = k := by omega
          subst hm'
          have ho4 : OwnI wq wo.heap.size (.slice (some ⟨wo.heap.size, 0, none⟩) (prTo P S P.length m m).length P.length) (prTo P S P.length m m) := by simpa using ho
          have cz := ho4.cell m (by simp; omega)
          have fz := ho4.free m
          have hset := ho4.set m 1
          rw [prTo_all HC.out hlt, prTo_len] at hset
          have hg3 := (ho.block wo.heap.size rfl)
          have hk3 : Keeps (fun b => b = wo.heap.size) wq (wq.setCell ⟨wo.heap.size, m, none⟩ (.int .i64 1)) := (Keeps.refl (fun b => b = wo.heap.size) _).setCell (p := ⟨wo.heap.size, m, none⟩) rfl _
          have hgr4 := hgr.keeps hk3 (fun b hb e => by have := (hblk b hb).2; omega)
          have hbx4 := hbx.wrote (hk3.mono (fun b hb => by omega))
          clear ho ho4 hgr hbx hk3
          generalize gI (prTo P S P.length m m) m = y at cz
          have hsz4 : (wq.setCell ⟨wo.heap.size, m, none⟩ (.int .i64 1)).heap.size = wq.heap.size := by simp
          have hown5 := hset.base_le (base' := w.heap.size + 1) (by omega)
          have hl5 : ((List.range m).map (pmRow P S P.length)).length = m := by simp
          have q1 : Apart (.slice (some ⟨wo.heap.size, 0, none⟩) P.length P.length) u3 := by intro b h1 h2; have := (hblk b (.inl h2)).2; simp [Value.ownBlock] at h1; omega
          have q2 : ∀ i, i < ((List.range m).map (pmRow P S P.length)).length → Apart (vs.getD i (.slice none 0 0)) (.slice (some ⟨wo.heap.size, 0, none⟩) P.length P.length) := by intro i hi b h1 h2; have := (hblk b (.inr ⟨i, hi, h1⟩)).2; simp [Value.ownBlock] at h2; omega
          have q3 : ((List.range m).map (pmRow P S P.length)).length ≤ 1000000000 := by rw [hl5]; omega
          have q4 : w.heap.size + 1 ≤ (wq.setCell ⟨wo.heap.size, m, none⟩ (.int .i64 1)).heap.size := by omega
          have HY := Lib.hid (show (List.range m).map (pmRow P S P.length) ++ [pmRow P S P.length m] = (List.range (m + 1)).map (pmRow P S P.length) by rw [List.range_succ, List.map_append]; rfl)
          have HL5 := Lib.hid hl5
          clear hl5
          go_wp2_with (at_builtin; refine wpList_pushR rfl (.tmp 34) (.tmp 36) 52 rfl (w.heap.size + 1) 2 22 j0 Try.underlying52 ji jz0 jz1 jz2 u3 vs ((List.range m).map (pmRow P S P.length)) (.slice (some ⟨wo.heap.size, 0, none⟩) P.length P.length) (pmRow P S P.length m) rfl hgr4 _ (by simp) rfl hown5 q1 q2 q3 q4 ?_; intro g5 cap5 w5 hgr5 hk5 hg5)
          have hbx5 := hbx4.wrote (hk5.mono (fun b hb => (hblk b (.inl hb)).1))
          rw [HY.out, HL5.out] at hgr5
          go_roundw
          case rel => exact ⟨m + 1, _, by omega, by go_num, hgr5, hbx5⟩
          case measure => simp [intOf]; omega
    · go_wp2
      have hk' : k = P.length := by omega
      subst hk'
      go_ret
      exact retM_mk (hown.own.base_le (by omega)) hbx.below
end Go.Proofs.Ythfdkigljbdogaa
