/- Contracts of the laws' own helpers on slices, branches and clusters: sizes, copies, comparisons, marks. -/
import Derived.Test.YtiinceflafigeaaLib
import Derived.Test.YtiinceflafigeaaRowL
namespace Go.Proofs.Ytiinceflafigeaa
open Go.RowKit

/-- What is left of l places behind n. -/
def szI (l : Int) (n : Nat) : Int := if l < n then -1 else l - n
theorem szI_lt {l : Int} {n : Nat} (h : l < n) : szI l n = -1 := by simp [szI, h]
theorem szI_ge {l : Int} {n : Nat} (h : ¬ l < n) : szI l n = l - n := by simp [szI, h]

theorem iota_step (k : Int) (n j : Nat) (xs : List Int) (hn : n = xs.length) (hj : j < n) :
    (iotaI k j ++ xs.drop j).set j (k + j) = iotaI k (j + 1) ++ xs.drop (j + 1) := by
  subst hn
  apply List.ext_getElem
  · simp; omega
  · intro i h1 h2
    simp only [List.getElem_set, List.getElem_append, iotaI_length]
    split
    · subst_vars; simp [iotaI]
    · split
      · rw [dif_pos (by omega)]; simp [iotaI]
      · rw [dif_neg (by omega)]; simp only [List.getElem_drop]; congr 1; omega

set_option maxHeartbeats 400000 in
theorem mark_c (v : Value) (xs : List Int) (k : Int) (base : Nat) (w : World) (h : OwnI w base v xs) (h0 : 0 ≤ k) (h1 : k ≤ 1000000000000) (hn : xs.length ≤ 1000000000000) :
    Calls Try.prog 133 #[v, .int .i64 k] w fun e w' => e = .returned (.int .i64 (k + xs.length)) ∧ OwnI w' base v (iotaI k xs.length) ∧ Keeps (fun b => v.ownBlock = some b) w w' := by
  rcases h.shape with ⟨rfl, rfl⟩ | ⟨g, cap, rfl, hb0, hb1, hb2, hb3⟩
  · go_enter Try.func133, Try.ntmps133
    go_wp2
    refine wp_loop_rounds 1 ?_
    rw [rounds_succ]
    go_wp2
    go_ret
    exact ⟨ret_int (by simp), own_nil _ _ _, Keeps.refl _ _⟩
  · go_enter Try.func133, Try.ntmps133
    go_wp2
    go_loopw [1, 5] (fun s i wr => ∃ j : Nat, j ≤ xs.length ∧ i = .int .i64 j ∧ s = .int .i64 (k + j) ∧ OwnI wr base (.slice (some ⟨g, 0, none⟩) xs.length cap) (iotaI k j ++ xs.drop j) ∧ Keeps (fun b => g = b) w wr) (fun _ i _ => xs.length - (intOf i).toNat)
    case atStart => exact ⟨0, Nat.zero_le _, rfl, by simp, by simpa [iotaI] using h, Keeps.refl _ _⟩
    case round =>
      obtain ⟨j, hj, rfl, rfl, hown, hkp⟩ := hrel
      clear h
      have hlen : (iotaI k j ++ xs.drop j).length = xs.length := by simp; omega
      by_cases hlt : j < xs.length
      · have hown' : OwnI wr base (.slice (some ⟨g, 0, none⟩) (iotaI k j ++ xs.drop j).length cap) (iotaI k j ++ xs.drop j) := by rw [hlen]; exact hown
        have hc := hown'.cell j (by omega)
        have hf := hown'.free j
        have hset := hown'.set j (k + j)
        rw [iota_step k xs.length j xs rfl hlt, hlen] at hset
        have hkp' := hkp.setCell (p := ⟨g, j, none⟩) rfl (.int .i64 (k + j))
        have HS := Lib.hid hset
        clear hown hown' hset hlen hkp
        go_wp2
        go_roundw
        case rel => exact ⟨j + 1, by omega, by go_num, by go_num, HS.out, hkp'⟩
        case measure => simp [intOf]; omega
      · have hj' : j = xs.length := by omega
        subst hj'
        go_wp2
        go_ret
        refine ⟨rfl, by simpa using hown, hkp.mono (fun b hb => by simp [Value.ownBlock, hb])⟩

set_option maxHeartbeats 400000 in
theorem held_c (v : Value) (n : Nat) (k : Int) (w : World) (h : Rd w v (iotaI k n)) (h0 : 0 ≤ k) (h1 : k ≤ 1000000000000) (hn : n ≤ 1000000000000) :
    Calls Try.prog 134 #[v, .int .i64 k] w fun e w' => e = .returned (.int .i64 (k + n)) ∧ w = w' := by
  obtain ⟨a, cap, rfl, hcap1, hcap2, hrd⟩ := h
  rw [iotaI_length] at hcap1 hrd ⊢
  go_enter Try.func134, Try.ntmps134
  go_wp2
  go_loop [1, 5] (fun s i => ∃ j : Nat, j ≤ n ∧ i = .int .i64 j ∧ s = .int .i64 (k + j)) (fun _ i => n - (intOf i).toNat)
  case atStart => exact ⟨0, Nat.zero_le _, rfl, by simp⟩
  case round =>
    obtain ⟨j, hj, rfl, rfl⟩ := hrel
    by_cases hlt : j < n
    · obtain ⟨b, off, rfl, hbl, hcs⟩ := hrd (by intro e; have := congrArg List.length e; simp at this; omega)
      have hc := hcs j hlt
      rw [gI_iota hlt] at hc
      clear hcs hrd
      go_wp2
      go_round
      case rel => exact ⟨j + 1, by omega, by go_num, by go_num⟩
      case measure => simp [intOf]; omega
    · have hj' : j = n := by omega
      subst hj'
      go_wp2
      go_ret
      exact ⟨rfl, rfl⟩
end Go.Proofs.Ytiinceflafigeaa

/- Contracts of the laws' own helpers on clusters: sizes, copies, comparisons, marks. -/
namespace Go.Proofs.Ytiinceflafigeaa
open Go.RowKit

/-- A new cluster is returned. -/
def RetC (w : World) (P S W : List Int) (e : Ending) (w' : World) : Prop :=
  ∃ a i b j c k, e = .returned (.agg #[.slice a P.length i, .slice b S.length j, .slice c W.length k]) ∧ Own3 2 w' w.heap.size (.slice a P.length i) (.slice b S.length j) (.slice c W.length k) P S W ∧ Below w.heap.size w w'

set_option maxHeartbeats 400000 in
theorem eqCluster_c (p s q p' s' q' : Value) (P S W : List Int) (w : World) (hp : Rd w p P) (hs : Rd w s S) (hq : Rd w q W) (hp' : Rd w p' P) (hs' : Rd w s' S) (hq' : Rd w q' W) :
    Calls Try.prog 29 #[.agg #[p, s, q], .agg #[p', s', q']] w fun e w' => e = .returned (.bool true) ∧ Below w.heap.size w w' := by
  obtain ⟨a1, k1, rfl⟩ := hp.len0
  obtain ⟨a2, k2, rfl⟩ := hs.len0
  obtain ⟨a3, k3, rfl⟩ := hq.len0
  obtain ⟨a4, k4, rfl⟩ := hp'.len0
  obtain ⟨a5, k5, rfl⟩ := hs'.len0
  obtain ⟨a6, k6, rfl⟩ := hq'.len0
  have hb : Below w.heap.size w ((w.alloc (.cells #[.slice a1 P.length k1, .slice a2 S.length k2, .slice a3 W.length k3] 40)).alloc (.cells #[.slice a4 P.length k4, .slice a5 S.length k5, .slice a6 W.length k6] 40)) := ((Below.refl _ _).alloc (Nat.le_refl _) _).alloc (by simp) _
  have r1 := hp.below hb (Nat.le_refl _)
  have r2 := hs.below hb (Nat.le_refl _)
  have r3 := hq.below hb (Nat.le_refl _)
  have r4 := hp'.below hb (Nat.le_refl _)
  have r5 := hs'.below hb (Nat.le_refl _)
  have r6 := hq'.below hb (Nat.le_refl _)
  have s1 := eqB_self P
  have s2 := eqB_self S
  have s3 := eqB_self W
  go_enter Try.func29, Try.ntmps29
  go_wp2_with fail
  refine (eqInt64S_c _ _ P P _ r1 r4).mono ?_
  rintro e w1 ⟨rfl, n1, rfl⟩
  go_wp2_with fail
  refine (eqInt64S_c _ _ S S _ (r2.below (below_drewN (Below.refl _ _) _) (Nat.le_refl _)) (r5.below (below_drewN (Below.refl _ _) _) (Nat.le_refl _))).mono ?_
  rintro e w1 ⟨rfl, n2, rfl⟩
  go_wp2_with fail
  refine (eqInt64S_c _ _ W W _ (r3.below (below_drewN (Below.refl _ _) _) (Nat.le_refl _)) (r6.below (below_drewN (Below.refl _ _) _) (Nat.le_refl _))).mono ?_
  rintro e w1 ⟨rfl, n3, rfl⟩
  go_wp2
  go_ret
  exact ⟨rfl, below_drewN hb _⟩

set_option maxHeartbeats 400000 in
theorem markCluster_c (p s q : Value) (P S W : List Int) (k : Int) (base : Nat) (w : World) (h : Own3 2 w base p s q P S W) (h0 : 0 ≤ k) (h1 : k ≤ 100000000) (hn : P.length ≤ 1048576 ∧ S.length ≤ 1048576 ∧ W.length ≤ 1048576) :
    Calls Try.prog 30 #[.agg #[p, s, q], .int .i64 k] w fun e w' => e = .returned (.int .i64 (k + P.length + S.length + W.length)) ∧
      Own3 2 w' base p s q (iotaI k P.length) (iotaI (k + P.length) S.length) (iotaI (k + P.length + S.length) W.length) ∧ Keeps (Own3.mine p s q) w w' := by
  obtain ⟨ha, hb, hc, hab, hac, hbc⟩ := h
  obtain ⟨a1, k1, rfl⟩ := ha.rd.len0
  obtain ⟨a2, k2, rfl⟩ := hb.rd.len0
  obtain ⟨a3, k3, rfl⟩ := hc.rd.len0
  have hx := Boxed.start w 40 #[.slice a1 P.length k1, .slice a2 S.length k2, .slice a3 W.length k3]
  have B0 := Blk.new w 40 #[.slice a1 P.length k1, .slice a2 S.length k2, .slice a3 W.length k3]
  have ha1 := ha.below hx.below (Nat.le_refl _)
  have hb1 := hb.below hx.below (Nat.le_refl _)
  have hc1 := hc.below hx.below (Nat.le_refl _)
  go_enter Try.func30, Try.ntmps30
  go_wp2_with fail
  refine (mark_c _ P _ _ _ ha1 h0 (by omega) (by omega)).mono ?_
  rintro e w1 ⟨rfl, ho1, hk1⟩
  have ho2 := hb1.keeps hk1 (fun g hg hg' => hab g hg' hg)
  have ho3 := hc1.keeps hk1 (fun g hg hg' => hac g hg' hg)
  have B1 := B0.keeps hk1 (fun hg => Nat.lt_irrefl _ (ha.block _ hg).2)
  have c1 := B1.cell 1
  clear ha1 hb1 hc1
  go_wp2_with fail
  refine (mark_c _ S _ _ _ ho2 (by omega) (by omega) (by omega)).mono ?_
  rintro e w2 ⟨rfl, hp2, hk2⟩
  have hp1 := ho1.keeps hk2 (fun g hg hg' => hab g hg hg')
  have hp3 := ho3.keeps hk2 (fun g hg hg' => hbc g hg' hg)
  have B2 := B1.keeps hk2 (fun hg => Nat.lt_irrefl _ (hb.block _ hg).2)
  have c2 := B2.cell 2
  clear ho1 ho2 ho3 B1 c1
  go_wp2_with fail
  refine (mark_c _ W _ _ _ hp3 (by omega) (by omega) (by omega)).mono ?_
  rintro e w3 ⟨rfl, hq3, hk3⟩
  have hq1 := hp1.keeps hk3 (fun g hg hg' => hac g hg hg')
  have hq2 := hp2.keeps hk3 (fun g hg hg' => hbc g hg hg')
  go_wp2
  go_ret
  refine ⟨rfl, ⟨hq1, hq2, hq3, hab, hac, hbc⟩, ?_⟩
  exact (((Keeps.of_below hx.below).trans (hk1.mono (fun _ h => .inl h))).trans (hk2.mono (fun _ h => .inr (.inl h)))).trans (hk3.mono (fun _ h => .inr (.inr h)))
end Go.Proofs.Ytiinceflafigeaa

/- Contracts of the laws' own helpers on branches: sizes, copies, comparisons. -/
namespace Go.Proofs.Ytiinceflafigeaa
open Go.RowKit

/-- A new branch is returned. -/
def RetB (w : World) (P : List Int) (e : Ending) (w' : World) : Prop :=
  ∃ a i, e = .returned (.agg #[.slice a P.length i]) ∧ OwnI w' w.heap.size (.slice a P.length i) P ∧ Below w.heap.size w w'

end Go.Proofs.Ytiinceflafigeaa

/- Contracts of the laws' own helpers on branches: marks. -/
namespace Go.Proofs.Ytiinceflafigeaa
open Go.RowKit

end Go.Proofs.Ytiinceflafigeaa
