/- Contract: impl.curvetteMultiplicities. -/
import Derived.Test.YtibfigmnoamheaaEuProx
import Derived.Test.YtibfigmnoamheaaDivP
namespace Go.Proofs.Ytibfigmnoamheaa
open Go.RowKit

/-- A list and a truth. -/
def RetK (w : World) (xs : List Int) (b : Bool) (e : Ending) (w' : World) : Prop :=
  ∃ a k, e = .returned (.tuple #[.slice a xs.length k, .bool b]) ∧ OwnI w' w.heap.size (.slice a xs.length k) xs ∧ Below w.heap.size w w'
theorem retK_nil {w w' : World} (hb : Below w.heap.size w w') : RetK w [] false (.returned (.tuple #[.slice none 0 0, .bool false])) w' := ⟨none, 0, rfl, own_nil _ _ _, hb⟩

set_option maxRecDepth 100000 in
set_option maxHeartbeats 4000000 in
theorem curvetteMultiplicities_c (v : Value) (K : List Int) (w : World) (h : Rd w v K) (hK : KOk K) :
    Calls Try.prog 126 #[v] w (RetK w (cuL K) (cuB K)) := by
  obtain ⟨i0, hi, hz0, hz1, hz2⟩ := info_parts Try.infoI
  obtain ⟨a, cap, rfl, hcap1, hcap2, hrd⟩ := h
  have hlen := hK.1
  obtain ⟨n, hn⟩ : ∃ n, K.length = n := ⟨_, rfl⟩
  rw [hn] at hcap1 hrd hlen ⊢
  have hmk : ∀ W : World, (Instr.makeSlice 24 (.int .i64 ((n : Int) + 1)) (.int .i64 ((n : Int) + 1))).run Try.prog W = .ok (.slice (some ⟨W.heap.size, 0, none⟩) (n + 1) (n + 1)) (W.alloc (.cells (madeCells #[.int .i64 0] (n + 1)) 2)) := fun W => run_make_row 24 2 i0 _ Try.underlying24 hi hz0 hz1 rfl .i64 .i64 (n + 1) (by rw [hz2]; omega) (by omega) W
  have hal : Below w.heap.size w (w.alloc (.cells (madeCells #[.int .i64 0] (n + 1)) 2)) := (Below.refl _ _).alloc (Nat.le_refl _) _
  have hE0 := ownI_made (w := w.alloc (.cells (madeCells #[.int .i64 0] (n + 1)) 2)) (e := 2) (base := w.heap.size) (g := w.heap.size) (n := n + 1) (Blk.new w _ _) (Nat.le_refl _) (by unfold maxLen; omega)
  have hE1 := Own.set (xs := List.replicate (n + 1) 0) (by rw [List.length_replicate]; exact hE0) n 1
  have hb1 := hal.setCell (p := ⟨w.heap.size, n, none⟩) (Nat.le_refl _) (.int .i64 1)
  have c0 := Own.cell (xs := List.replicate (n + 1) 0) (by rw [List.length_replicate]; exact hE0) n (by simp)
  have f0 := Own.free (xs := List.replicate (n + 1) 0) (by rw [List.length_replicate]; exact hE0) n
  rw [List.length_replicate, ← hn, cuAt_zero_eq, hn] at hE1
  have H1 := Lib.hid hE1
  have H2 := Lib.hid hb1
  have HN := Lib.hid hn
  clear hn hE0 hE1 hb1 hal
  go_enter Try.func126, Try.ntmps126
  go_wp2_with fail
  go_loopw [5, 6] (fun jv _ wr => ∃ t : Nat, t ≤ n ∧ jv = .int .i64 ((n : Int) - t) ∧ cuGo K t ∧ OwnI wr w.heap.size (.slice (some ⟨w.heap.size, 0, none⟩) (n + 1) (n + 1)) (cuAt K t) ∧ Below w.heap.size w wr) (fun jv _ _ => (intOf jv).toNat)
  case atStart => exact ⟨0, Nat.zero_le _, by simp, fun s hs => by omega, by have := H1.out; rw [World.setCell_alloc_at _ _ _ _ _ rfl] at this; exact this, by have := H2.out; rw [World.setCell_alloc_at _ _ _ _ _ rfl] at this; exact this⟩
  case round =>
    obtain ⟨t, ht, rfl, hgo, hO, hbl⟩ := hrel
    clear c0 f0 hmk
    obtain ⟨wo, rfl⟩ : ∃ wo : World, wo = wr := ⟨_, rfl⟩
    have hbd := cuAt_bd hK t (by rw [HN.out]; exact ht) hgo
    have hln := cuAt_len K t
    have hsz := hbl.size
    rw [HN.out] at hln
    by_cases hlt : t < n
    · obtain ⟨q, hq⟩ : ∃ q, n - t = q + 1 := ⟨n - t - 1, by omega⟩
      have hqi : (n : Int) - t = (q : Int) + 1 := by omega
      have hqn : q < n := by omega
      rw [hqi]
      have hO2 : OwnI wo w.heap.size (.slice (some ⟨w.heap.size, 0, none⟩) (cuAt K t).length (n + 1)) (cuAt K t) := by rw [hln]; exact hO
      have dx := hO2.cell (q + 1) (by omega)
      have dy := hO2.cell q (by omega)
      have fy := hO2.free q
      have hset := hO2.set q (gI (cuAt K t) q + gI (cuAt K t) (q + 1))
      have bx := hbd (q + 1)
      have by' := hbd q
      by_cases hx : gI (cuAt K t) (q + 1) ≤ 64
      · have hgo1 := cuGo_succ hgo (by rw [HN.out, hq]; exact hx)
        have hK1 := hK.2 q (by rw [HN.out]; exact hqn)
        obtain ⟨b, off, rfl, hb, hc⟩ := hrd (by intro e; have h1 := HN.out; rw [e] at h1; simp at h1; omega)
        have dK : wo.cell? ⟨b, off + q, none⟩ = some (.int .i64 (gI K q)) := by rw [hbl.cell (p := ⟨b, off + q, none⟩) hb]; exact hc q hqn
        have hbs := hbl.setCell (p := ⟨w.heap.size, q, none⟩) (Nat.le_refl _) (.int .i64 (gI (cuAt K t) q + gI (cuAt K t) (q + 1)))
        have dK1 : (wo.setCell ⟨w.heap.size, q, none⟩ (.int .i64 (gI (cuAt K t) q + gI (cuAt K t) (q + 1)))).cell? ⟨b, off + q, none⟩ = some (.int .i64 (gI K q)) := by rw [hbs.cell (p := ⟨b, off + q, none⟩) hb]; exact hc q hqn
        have HL1 : Hid ((cuAt K t).set q (gI (cuAt K t) q + gI (cuAt K t) (q + 1)) = bump (cuAt K t) q (gI (cuAt K t) (q + 1))) := Lib.hid rfl
        rw [HL1.out] at hset
        have HS := Lib.hid hset
        have HBS := Lib.hid hbs
        have HDK := Lib.hid dK1
        have HX := Lib.hid hx
        have wxy : IntKind.i64.wrap (gI (cuAt K t) q + gI (cuAt K t) (q + 1)) = gI (cuAt K t) q + gI (cuAt K t) (q + 1) := IntWalk.i64_in _ (by omega)
        have f1 : (q : Int) + 1 - 1 = (q : Int) := by omega
        have f2 : IntKind.i64.wrap (q : Int) = (q : Int) := IntWalk.i64_in _ (by omega)
        have f3 : (0 : Int) ≤ (q : Int) := by omega
        have f4 : (q : Int) < ((n + 1 : Nat) : Int) := by omega
        have f5 : (q : Int) < (n : Int) + 1 := by omega
        have f6 : ((q : Int) + 1).toNat = q + 1 := by omega
        have f7 : (0 : Int) ≤ (q : Int) + 1 := by omega
        have f8 : (q : Int) + 1 < (n : Int) + 1 := by omega
        have f9 : (q : Int) < (n : Int) := by omega
        have fx : ¬ 64 < gI (cuAt K t) (q + 1) := by omega
        have hbdr : ∀ i, 0 ≤ gI (cuAt K t) i ∧ gI (cuAt K t) i ≤ 100000 := fun i => by have := hbd i; omega
        clear hset hbs hbd hO hO2 hrd hc hgo dK1 hx hqi
        generalize hxx : gI (cuAt K t) (q + 1) = x at *
        generalize hyy : gI (cuAt K t) q = y at *
        go_wp2_with fail
        go_region
        have hKl : K.length - t = q + 1 := by rw [HN.out]; exact hq
        generalize wo.setCell ⟨w.heap.size, q, none⟩ (.int .i64 (y + x)) = W1 at *
        have hO1 := HS.out
        have hB1 := HBS.out
        have dK1 := HDK.out
        have hd1 : Below W1.heap.size W1 W1.drew := (Below.refl _ _).drew
        clear dx dy fy dK wxy
        by_cases hz : gI K q = 0
        · have HT : Hid (cuAt K (t + 1) = bump (cuAt K t) q x) := Lib.hid (by rw [cuAt_succ_zero (by rw [hKl]; exact hz), hKl, hxx]; rfl)
          have hO3 : OwnI W1 w.heap.size (.slice (some ⟨w.heap.size, 0, none⟩) (n + 1) (n + 1)) (cuAt K (t + 1)) := by rw [HT.out]; rw [hln] at hO1; exact hO1
          have H3 := Lib.hid (hO3.below hd1 (Nat.le_refl _))
          have H4 := Lib.hid (hB1.trans (hd1.mono hB1.size))
          rw [hz] at dK1
          clear hO1 hO3 hB1 HT hxx hyy hd1
          go_wp2
          go_roundw
          case rel => exact ⟨t + 1, by omega, by congr 1; omega, hgo1, H3.out, H4.out⟩
          case measure => simp [intOf]
        · obtain ⟨d, hd⟩ := Int.eq_ofNat_of_zero_le hK1.1
          obtain ⟨r, hr⟩ : ∃ r, q + 1 - d = r := ⟨_, rfl⟩
          have hd0 : 0 < d := by omega
          have hdq : d ≤ q + 1 := by omega
          have hri : (q : Int) + 1 - (d : Int) = (r : Int) := by omega
          have hrn : r ≤ q := by omega
          have hO1' : OwnI W1 w.heap.size (.slice (some ⟨w.heap.size, 0, none⟩) (bump (cuAt K t) q x).length (n + 1)) (bump (cuAt K t) q x) := by rw [bump_len]; exact hO1
          have cz := hO1'.cell r (by rw [bump_len]; omega)
          have cx := hO1'.cell (q + 1) (by rw [bump_len]; omega)
          rw [gI_bump (by omega), if_neg (by omega), hxx] at cx
          have fz := hO1'.free r
          have bz : 0 ≤ gI (bump (cuAt K t) q x) r ∧ gI (bump (cuAt K t) q x) r ≤ 1000000 := by
            rw [gI_bump (by omega)]
            split
            · rw [hyy]; omega
            · have := hbdr r; omega
          have HT : Hid (cuAt K (t + 1) = bump (bump (cuAt K t) q x) r x) := Lib.hid (by rw [cuAt_succ_two (by rw [hKl]; exact hz), hKl, hxx, Nat.add_sub_cancel, hd, ← hr]; rfl)
          have hs2 := hO1'.set r (gI (bump (cuAt K t) q x) r + x)
          have hb2 := hB1.setCell (p := ⟨w.heap.size, r, none⟩) (Nat.le_refl _) (.int .i64 (gI (bump (cuAt K t) q x) r + x))
          have hs3 : OwnI (W1.setCell ⟨w.heap.size, r, none⟩ (.int .i64 (gI (bump (cuAt K t) q x) r + x))) w.heap.size (.slice (some ⟨w.heap.size, 0, none⟩) (n + 1) (n + 1)) (cuAt K (t + 1)) := by rw [HT.out]; rw [bump_len, hln] at hs2; exact hs2
          have H3 := Lib.hid hs3
          have H4 := Lib.hid hb2
          have HR := Lib.hid hri
          have wzx : IntKind.i64.wrap (gI (bump (cuAt K t) q x) r + x) = gI (bump (cuAt K t) q x) r + x := IntWalk.i64_in _ (by omega)
          have hw2 : IntKind.i64.wrap ((q : Int) + 1 - (d : Int)) = (r : Int) := by rw [hri]; exact IntWalk.i64_in _ (by omega)
          have hw3 : IntKind.i64.wrap (r : Int) = (r : Int) := IntWalk.i64_in _ (by omega)
          have g1 : (0 : Int) ≤ (r : Int) := by omega
          have g2 : (r : Int) < (n : Int) + 1 := by omega
          have g3 : ¬ (d : Int) = 0 := by omega
          have g4 : ((d : Int) != 0) = true := bne_iff_ne.2 g3
          have g5 : ¬ d = 0 := by omega
          rw [hd] at dK1
          clear hO1 hO1' hB1 HT hxx hyy hd1 hs2 hb2 hs3 hbdr hd hr
          generalize gI (bump (cuAt K t) q x) r = z at *
          go_wp2_with fail
          go_region
          go_wp2
          go_roundw
          case rel => exact ⟨t + 1, by omega, by congr 1; omega, hgo1, H3.out.below (B := (W1.setCell ⟨w.heap.size, r, none⟩ (.int .i64 (z + x))).heap.size) (Below.refl _ _).drew.drew (Nat.le_refl _), H4.out.trans ((Below.refl _ _).drew.drew)⟩
          case measure => simp [intOf]
      · have HE := Lib.hid (cuE_no (K := K) (t := t) (by rw [HN.out]; exact hlt) (by rw [HN.out, hq]; exact hx))
        have fx : 64 < gI (cuAt K t) (q + 1) := by omega
        have f6 : ((q : Int) + 1).toNat = q + 1 := by omega
        have f7 : (0 : Int) ≤ (q : Int) + 1 := by omega
        have f8 : (q : Int) + 1 < (n : Int) + 1 := by omega
        have HF : Hid (RetK w (cuL K) (cuB K) (.returned (.tuple #[.slice none 0 0, .bool false])) wo) := Lib.hid (by rw [cuL_no HE.out, cuB_no HE.out]; exact retK_nil hbl)
        clear hO hO2 hset hbd hgo hx hqi
        generalize gI (cuAt K t) (q + 1) = x at *
        go_wp2
        go_ret2
        exact HF.out
    · have hte : t = n := by omega
      have hgo' : cuGo K K.length := by rw [HN.out, ← hte]; exact hgo
      have HL := Lib.hid (cuL_yes hgo')
      have HB := Lib.hid (cuB_yes hgo')
      subst hte
      have hO2 : OwnI wo w.heap.size (.slice (some ⟨w.heap.size, 0, none⟩) (cuAt K t).length (t + 1)) (cuAt K t) := by rw [hln]; exact hO
      have dx := hO2.cell 0 (by omega)
      have hb0 := hbd 0
      have hret : ∀ m, RetK w (cuL K) (cuB K) (.returned (.tuple #[.slice (some ⟨w.heap.size, 0, none⟩) (t + 1) (t + 1), .bool (decide (gI (cuAt K t) 0 ≤ 64))])) (wo.drewN m) := by
        intro m
        rw [HL.out, HB.out, HN.out]
        have := (show RetK w (cuAt K t) (decide (gI (cuAt K t) 0 ≤ 64)) (.returned (.tuple #[.slice (some ⟨w.heap.size, 0, none⟩) (cuAt K t).length (t + 1), .bool (decide (gI (cuAt K t) 0 ≤ 64))])) (wo.drewN m) from ⟨_, _, rfl, hO2.below (below_drewN (Below.refl wo.heap.size wo) m) (Nat.le_refl _), below_drewN hbl m⟩)
        rw [hln] at this
        exact this
      have HF := Lib.hid hret
      have e0 : (t : Int) - (t : Int) = 0 := by omega
      clear hO hO2 hret hbd hgo hgo' hrd hK
      generalize gI (cuAt K t) 0 = x at *
      go_wp2_with fail
      go_quiet (fail)
      go_wp2
      go_ret2
      exact HF.out _
end Go.Proofs.Ytibfigmnoamheaa
