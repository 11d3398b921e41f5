/- Contract: spec.l04Blocks. -/
import Derived.Test.YtiinceflafigeaaBlk
import Derived.BigQuiet
namespace Go.Proofs.Ytiinceflafigeaa
open Go.RowKit

set_option maxRecDepth 100000 in
set_option maxHeartbeats 4000000 in
theorem l04Blocks_c (v : Value) (L : List Int) (w : World) (h : Rd w v L) (hl : L.length ≤ 1000) :
    Calls Try.prog 200 #[v] w (RetM 2 w (rowsOf (blk L))) := by
  obtain ⟨j0, ji, jz0, jz1, jz2⟩ := info_parts Try.infoII
  obtain ⟨a0, c0, rfl⟩ := h.len0
  have hE : GrowM 2 24 (w.alloc (.cells #[] 24)) w.heap.size (.slice (some ⟨w.heap.size, 0, none⟩) 0 0) [] [] := GrowM.empty _ _ w w.heap.size w.heap.size rfl (Nat.le_refl _)
  have hal : Below w.heap.size w (w.alloc (.cells #[] 24)) := (Below.refl _ _).alloc (Nat.le_refl _) _
  have HALL : Hid (blk (L.take L.length) = blk L) := Lib.hid (by rw [List.take_length])
  obtain ⟨n, hn⟩ : ∃ n, L.length = n := ⟨_, rfl⟩
  have HN := Lib.hid hn
  rw [hn] at hl ⊢
  have HH := Lib.hid h
  clear h hn
  go_enter Try.func200, Try.ntmps200
  go_wp2_with fail
  go_loopw [3, 4, 5] (fun lv iv _ wr => ∃ (k : Nat) (g c : Nat) (vs : List Value), k ≤ n ∧ iv = .int .i64 (k : Int) ∧ lv = .slice (some ⟨g, 0, none⟩) (rowsOf (blk (L.take k))).length c ∧ GrowM 2 24 wr w.heap.size (.slice (some ⟨g, 0, none⟩) (rowsOf (blk (L.take k))).length c) vs (rowsOf (blk (L.take k))) ∧ Below w.heap.size w wr) (fun _ iv _ _ => n - (intOf iv).toNat)
  case atStart => exact ⟨0, w.heap.size, 0, [], Nat.zero_le _, rfl, rfl, hE, hal⟩
  case round =>
    obtain ⟨k, g, c, vs, hk, rfl, rfl, hG, hbl⟩ := hrel
    clear hE hal
    obtain ⟨wo, rfl⟩ : ∃ wo : World, wo = wr := ⟨_, rfl⟩
    by_cases hlt : k < n
    · have hinv := blk_inv (L := L) k (by rw [HN.out]; exact hk)
      have HST := Lib.hid (blk_take_succ (L := L) (k := k) (by rw [HN.out]; exact hlt))
      --ROUND
      generalize hgR : blk (L.take k) = R at *
      generalize hgy : gI L k = y at *
      have HB : Hid (∀ s, s ∈ openB R y → 0 ≤ s.2 ∧ s.2 ≤ 1000) := Lib.hid (fun s hs => by
        unfold openB at hs
        split at hs
        · rcases List.mem_append.1 hs with hs | hs
          · have := hinv.2.1 s hs; omega
          · simp at hs; subst hs; simp
        · have := hinv.2.1 s hs; omega)
      have hRb := hinv.1
      have HRL := Lib.hid hRb
      have HML : Hid (∀ m, (openB R y).length = m + 1 → m ≤ 1000) := Lib.hid (fun m hm => by
        unfold openB at hm
        split at hm
        · simp at hm; omega
        · omega)
      obtain ⟨b, off, cap, he, hc1, hc2, hb, hc⟩ := HH.out.cells (by rw [HN.out]; omega)
      injection he with he1 he2 he3
      subst he1 he3
      have dy : wo.cell? ⟨b, off + k, none⟩ = some (.int .i64 y) := by rw [hbl.cell (p := ⟨b, off + k, none⟩) hb, ← hgy]; exact hc k (by rw [HN.out]; exact hlt)
      by_cases hk0 : k = 0
      · subst hk0
        have hR0 : R = [] := by rw [← hgR]; rfl
        have HNB : Hid (newB R y = true) := Lib.hid (by rw [hR0]; rfl)
        clear hR0 hc hinv he2 hgR hgy
        go_wp2_with fail
        go_quiet (fail)
        rename_i nq
        have hG1 := hG.below (below_drewN (Below.refl wo.heap.size wo) nq)
        have hbl1 := below_drewN hbl nq
        have dy1 : (wo.drewN nq).cell? ⟨b, off, none⟩ = some (.int .i64 y) := dy
        generalize wo.drewN nq = w1 at *
        clear hG hbl dy
        have hal2 : Below w1.heap.size w1 (w1.alloc (.cells #[.int .i64 y, .int .i64 0] 2)) := (Below.refl _ _).alloc (Nat.le_refl _) _
        have hG2 := hG1.below hal2
        have hsz := hbl1.size
        have hgl := (hG1.block g rfl).2
        have hu : Own 2 (w1.alloc (.cells #[.int .i64 y, .int .i64 0] 2)) w.heap.size (.slice (some ⟨w1.heap.size, 0, none⟩) 2 2) [y, 0] := own_blk2 (Blk.new w1 _ _) hsz
        have hua : Apart (.slice (some ⟨w1.heap.size, 0, none⟩) 2 2) (.slice (some ⟨g, 0, none⟩) (rowsOf R).length c) := fun x h1 h2 => by simp [Value.ownBlock] at h1 h2; omega
        have hur : ∀ i, i < (rowsOf R).length → Apart (vs.getD i (.slice none 0 0)) (.slice (some ⟨w1.heap.size, 0, none⟩) 2 2) := fun i hi x h1 h2 => by simp [Value.ownBlock] at h2; have := ((hG1.row i hi).block x h1).2; omega
        go_upto_region 7 with (at_builtin; refine wpList_pushR rfl (.tmp 27) (.tmp 33) 64 rfl w.heap.size 2 24 j0 Try.underlying64 ji jz0 jz1 jz2 (.slice (some ⟨g, 0, none⟩) (rowsOf R).length c) vs (rowsOf R) (.slice (some ⟨w1.heap.size, 0, none⟩) 2 2) [y, 0] (by simp [go_sem]) hG2 (w1.heap.size + 1) (by simp) rfl hu hua hur (by have := HRL.out; simp; omega) (by simp; omega) ?_; intro g2 c2 w2 hG3 hkp hlt3)
        have hbl2 := (hbl1.trans (hal2.mono hsz)).trans (hkp.below (by simp; omega) (fun k hk => by simp [Value.ownBlock] at hk; have := (hG1.block g rfl).1; omega))
        have hOP : openB R y = R ++ [(y, 0)] := openB_yes HNB.out
        rw [rowsOf_len] at hG3
        rw [← rowsOf_snoc R (y, 0), ← hOP] at hG3
        have hl3 : R.length + 1 = (rowsOf (openB R y)).length := by rw [rowsOf_len, hOP]; simp
        rw [hl3] at hG3 ⊢
        have hG2 := hG3
        have hcnt2 := hl3
        clear hkp hG1 hal2 hu hua hur hl3 hG3 hbl1
        have hR2p : 0 < (openB R y).length := by rw [hOP]; simp
        have hR2b : ∀ s, s ∈ openB R y → 0 ≤ s.2 ∧ s.2 ≤ 1000 := HB.out
        obtain ⟨m, hm⟩ : ∃ m, (openB R y).length = m + 1 := ⟨(openB R y).length - 1, by omega⟩
        have hrl : (rowsOf (openB R y)).length = m + 1 := by rw [rowsOf_len, hm]
        have hrow := hG2.row m (by omega)
        rw [gR_rowsOf2 (by omega)] at hrow
        obtain ⟨bu, cu, hVe, hbu1, hbu2, _, _⟩ := Own.pos hrow (by simp)
        have hst := hG2.store (i := m) (g := bu) (cap := cu) (by omega) (by rw [gR_rowsOf2 (by omega)]; exact hVe) 1 (((openB R y).getD m (0, 0)).2 + 1)
        rw [rowsOf_set (by omega)] at hst
        have hup : (openB R y).set m (((openB R y).getD m (0, 0)).1, ((openB R y).getD m (0, 0)).2 + 1) = upLast (openB R y) := by unfold upLast; rw [hm, Nat.add_sub_cancel]
        rw [hup] at hst
        have hcnt := hR2b ((openB R y).getD m (0, 0)) (by simp [List.getD, show m < (openB R y).length by omega])
        rw [hVe] at hrow
        have du1 := Own.cell hrow 1 (by simp)
        have fu1 := Own.free hrow 1
        have gg1 : gI [((openB R y).getD m (0, 0)).1, ((openB R y).getD m (0, 0)).2] 1 = ((openB R y).getD m (0, 0)).2 := rfl
        rw [gg1] at du1
        have dV : w2.cell? ⟨g2, m, none⟩ = some (.slice (some ⟨bu, 0, none⟩) 2 cu) := by
          rcases hG2.own.shape with ⟨he, _⟩ | ⟨g', cap', he, _, _, _, _, h6⟩
          · cases he
          · injection he with he1 _ _
            injection he1 with he1
            injection he1 with he1 _ _
            subst he1
            have := h6 m (by omega)
            rw [this]
            exact congrArg some hVe
        have hbb : Below w.heap.size w (w2.setCell ⟨bu, 1, none⟩ (.int .i64 (((openB R y).getD m (0, 0)).2 + 1))) := hbl2.setCell (p := ⟨bu, 1, none⟩) (by show w.heap.size ≤ bu; omega) _
        have hul : (rowsOf (upLast (openB R y))).length = m + 1 := by rw [rowsOf_len, upLast_len, hm]
        have HFR : Hid (∃ vs', GrowM 2 24 (w2.setCell ⟨bu, 1, none⟩ (.int .i64 (((openB R y).getD m (0, 0)).2 + 1))) w.heap.size (.slice (some ⟨g2, 0, none⟩) (rowsOf (blk (L.take (0 + 1)))).length c2) vs' (rowsOf (blk (L.take (0 + 1))))) := Lib.hid ⟨_, by rw [HST.out]; show GrowM _ _ _ _ (.slice (some ⟨g2, 0, none⟩) (rowsOf (upLast (openB R y))).length c2) _ (rowsOf (upLast (openB R y))); rw [hul, ← hrl]; exact hst⟩
        have HLN : Hid ((rowsOf (blk (L.take (0 + 1)))).length = m + 1) := Lib.hid (by rw [HST.out]; exact hul)
        have HBB := Lib.hid hbb
        generalize ((openB R y).getD m (0, 0)).2 = cnt at *
        have e1 : IntKind.i64.wrap (m : Int) = (m : Int) := IntWalk.i64_in _ (by have := HML.out m hm; omega)
        have e2 : (m : Int) + 1 - 1 = (m : Int) := by omega
        have e3 : (0 : Int) ≤ (m : Int) := by omega
        have e4 : (m : Int) < ((m + 1 : Nat) : Int) := by omega
        have e5 : (m : Int) < (m : Int) + 1 := by omega
        rw [hrl] at *
        clear hst hrow hVe hup hcnt2 hbb hul hrl hG2 hR2b hm gg1 hbl2 hRb hOP
        go_wp2
        obtain ⟨vs', hgv⟩ := HFR.out
        go_roundw
        case rel => exact ⟨0 + 1, g2, c2, vs', by omega, by go_num, by rw [HLN.out], hgv, HBB.out⟩
        case measure => simp [intOf]; omega
      · have dx : wo.cell? ⟨b, off + (k - 1), none⟩ = some (.int .i64 (gI L (k - 1))) := by rw [hbl.cell (p := ⟨b, off + (k - 1), none⟩) hb]; exact hc (k - 1) (by rw [HN.out]; omega)
        have hnb := newB_blk (L := L) (k := k) (by rw [HN.out]; exact hk) (by omega) y
        rw [hgR] at hnb
        obtain ⟨R0, c0, hR0⟩ := hinv.2.2 (by omega)
        have hRp : 0 < R.length := by rw [hR0]; simp
        have HRP := Lib.hid hRp
        have hkb : ((k : Int) == 0) = false := by simp; omega
        obtain ⟨q, hq⟩ : ∃ q, k - 1 = q := ⟨_, rfl⟩
        rw [hq] at dx hnb
        have f1 : (k : Int) - 1 = (q : Int) := by omega
        have f2 : IntKind.i64.wrap (q : Int) = (q : Int) := IntWalk.i64_in _ (by omega)
        have f3 : (0 : Int) ≤ (q : Int) := by omega
        have f4 : (q : Int) < (n : Int) := by omega
        generalize gI L q = x at *
        by_cases hxy : x = y
        · have HNB : Hid (newB R y = false) := Lib.hid (by rw [hnb]; simp [hxy])
          have g1 : (y != x) = false := by simp [hxy]
          have g2 : (y == x) = true := by simp [hxy]
          clear hc hinv he2 hgR hgy hnb hR0 hq hxy
          go_wp2_with fail
          go_quiet (fail)
          rename_i nq
          have hG1 := hG.below (below_drewN (Below.refl wo.heap.size wo) nq)
          have hbl1 := below_drewN hbl nq
          have dy1 : (wo.drewN nq).cell? ⟨b, off + k, none⟩ = some (.int .i64 y) := dy
          generalize wo.drewN nq = w1 at *
          clear hG hbl dy
          have hOP : openB R y = R := openB_no HNB.out
          obtain ⟨g2, hg2⟩ : ∃ g2, g2 = g := ⟨_, rfl⟩
          obtain ⟨c2, hc2⟩ : ∃ c2, c2 = c := ⟨_, rfl⟩
          obtain ⟨w2, hw2⟩ : ∃ w2 : World, w2 = w1 := ⟨_, rfl⟩
          have hG2 := hG1
          have hbl2 := hbl1
          rw [← hOP] at hG2 ⊢
          rw [← hg2, ← hc2, ← hw2] at hG2 ⊢
          rw [← hw2] at hbl2
          have hcnt2 := hg2
          clear hG1 hbl1 hg2 hc2 hw2
          have hR2p : 0 < (openB R y).length := by rw [hOP]; exact HRP.out
          have hR2b : ∀ s, s ∈ openB R y → 0 ≤ s.2 ∧ s.2 ≤ 1000 := HB.out
          obtain ⟨m, hm⟩ : ∃ m, (openB R y).length = m + 1 := ⟨(openB R y).length - 1, by omega⟩
          have hrl : (rowsOf (openB R y)).length = m + 1 := by rw [rowsOf_len, hm]
          have hrow := hG2.row m (by omega)
          rw [gR_rowsOf2 (by omega)] at hrow
          obtain ⟨bu, cu, hVe, hbu1, hbu2, _, _⟩ := Own.pos hrow (by simp)
          have hst := hG2.store (i := m) (g := bu) (cap := cu) (by omega) (by rw [gR_rowsOf2 (by omega)]; exact hVe) 1 (((openB R y).getD m (0, 0)).2 + 1)
          rw [rowsOf_set (by omega)] at hst
          have hup : (openB R y).set m (((openB R y).getD m (0, 0)).1, ((openB R y).getD m (0, 0)).2 + 1) = upLast (openB R y) := by unfold upLast; rw [hm, Nat.add_sub_cancel]
          rw [hup] at hst
          have hcnt := hR2b ((openB R y).getD m (0, 0)) (by simp [List.getD, show m < (openB R y).length by omega])
          rw [hVe] at hrow
          have du1 := Own.cell hrow 1 (by simp)
          have fu1 := Own.free hrow 1
          have gg1 : gI [((openB R y).getD m (0, 0)).1, ((openB R y).getD m (0, 0)).2] 1 = ((openB R y).getD m (0, 0)).2 := rfl
          rw [gg1] at du1
          have dV : w2.cell? ⟨g2, m, none⟩ = some (.slice (some ⟨bu, 0, none⟩) 2 cu) := by
            rcases hG2.own.shape with ⟨he, _⟩ | ⟨g', cap', he, _, _, _, _, h6⟩
            · cases he
            · injection he with he1 _ _
              injection he1 with he1
              injection he1 with he1 _ _
              subst he1
              have := h6 m (by omega)
              rw [this]
              exact congrArg some hVe
          have hbb : Below w.heap.size w (w2.setCell ⟨bu, 1, none⟩ (.int .i64 (((openB R y).getD m (0, 0)).2 + 1))) := hbl2.setCell (p := ⟨bu, 1, none⟩) (by show w.heap.size ≤ bu; omega) _
          have hul : (rowsOf (upLast (openB R y))).length = m + 1 := by rw [rowsOf_len, upLast_len, hm]
          have HFR : Hid (∃ vs', GrowM 2 24 (w2.setCell ⟨bu, 1, none⟩ (.int .i64 (((openB R y).getD m (0, 0)).2 + 1))) w.heap.size (.slice (some ⟨g2, 0, none⟩) (rowsOf (blk (L.take (k + 1)))).length c2) vs' (rowsOf (blk (L.take (k + 1))))) := Lib.hid ⟨_, by rw [HST.out]; show GrowM _ _ _ _ (.slice (some ⟨g2, 0, none⟩) (rowsOf (upLast (openB R y))).length c2) _ (rowsOf (upLast (openB R y))); rw [hul, ← hrl]; exact hst⟩
          have HLN : Hid ((rowsOf (blk (L.take (k + 1)))).length = m + 1) := Lib.hid (by rw [HST.out]; exact hul)
          have HBB := Lib.hid hbb
          generalize ((openB R y).getD m (0, 0)).2 = cnt at *
          have e1 : IntKind.i64.wrap (m : Int) = (m : Int) := IntWalk.i64_in _ (by have := HML.out m hm; omega)
          have e2 : (m : Int) + 1 - 1 = (m : Int) := by omega
          have e3 : (0 : Int) ≤ (m : Int) := by omega
          have e4 : (m : Int) < ((m + 1 : Nat) : Int) := by omega
          have e5 : (m : Int) < (m : Int) + 1 := by omega
          rw [hrl] at *
          clear hst hrow hVe hup hcnt2 hbb hul hrl hG2 hR2b hm gg1 hbl2 hRb hOP
          go_wp2
          obtain ⟨vs', hgv⟩ := HFR.out
          go_roundw
          case rel => exact ⟨k + 1, g2, c2, vs', by omega, by go_num, by rw [HLN.out], hgv, HBB.out⟩
          case measure => simp [intOf]; omega
        · have HNB : Hid (newB R y = true) := Lib.hid (by rw [hnb]; simp [hxy])
          have g1 : (y != x) = true := by simp; exact fun e => hxy e.symm
          have g2 : (y == x) = false := by simp; exact fun e => hxy e.symm
          clear hc hinv he2 hgR hgy hnb hR0 hq hxy
          go_wp2_with fail
          go_quiet (fail)
          rename_i nq
          have hG1 := hG.below (below_drewN (Below.refl wo.heap.size wo) nq)
          have hbl1 := below_drewN hbl nq
          have dy1 : (wo.drewN nq).cell? ⟨b, off + k, none⟩ = some (.int .i64 y) := dy
          generalize wo.drewN nq = w1 at *
          clear hG hbl dy
          have hal2 : Below w1.heap.size w1 (w1.alloc (.cells #[.int .i64 y, .int .i64 0] 2)) := (Below.refl _ _).alloc (Nat.le_refl _) _
          have hG2 := hG1.below hal2
          have hsz := hbl1.size
          have hgl := (hG1.block g rfl).2
          have hu : Own 2 (w1.alloc (.cells #[.int .i64 y, .int .i64 0] 2)) w.heap.size (.slice (some ⟨w1.heap.size, 0, none⟩) 2 2) [y, 0] := own_blk2 (Blk.new w1 _ _) hsz
          have hua : Apart (.slice (some ⟨w1.heap.size, 0, none⟩) 2 2) (.slice (some ⟨g, 0, none⟩) (rowsOf R).length c) := fun x h1 h2 => by simp [Value.ownBlock] at h1 h2; omega
          have hur : ∀ i, i < (rowsOf R).length → Apart (vs.getD i (.slice none 0 0)) (.slice (some ⟨w1.heap.size, 0, none⟩) 2 2) := fun i hi x h1 h2 => by simp [Value.ownBlock] at h2; have := ((hG1.row i hi).block x h1).2; omega
          go_upto_region 7 with (at_builtin; refine wpList_pushR rfl (.tmp 27) (.tmp 33) 64 rfl w.heap.size 2 24 j0 Try.underlying64 ji jz0 jz1 jz2 (.slice (some ⟨g, 0, none⟩) (rowsOf R).length c) vs (rowsOf R) (.slice (some ⟨w1.heap.size, 0, none⟩) 2 2) [y, 0] (by simp [go_sem]) hG2 (w1.heap.size + 1) (by simp) rfl hu hua hur (by have := HRL.out; simp; omega) (by simp; omega) ?_; intro g2 c2 w2 hG3 hkp hlt3)
          have hbl2 := (hbl1.trans (hal2.mono hsz)).trans (hkp.below (by simp; omega) (fun k hk => by simp [Value.ownBlock] at hk; have := (hG1.block g rfl).1; omega))
          have hOP : openB R y = R ++ [(y, 0)] := openB_yes HNB.out
          rw [rowsOf_len] at hG3
          rw [← rowsOf_snoc R (y, 0), ← hOP] at hG3
          have hl3 : R.length + 1 = (rowsOf (openB R y)).length := by rw [rowsOf_len, hOP]; simp
          rw [hl3] at hG3 ⊢
          have hG2 := hG3
          have hcnt2 := hl3
          clear hkp hG1 hal2 hu hua hur hl3 hG3 hbl1
          have hR2p : 0 < (openB R y).length := by rw [hOP]; simp
          have hR2b : ∀ s, s ∈ openB R y → 0 ≤ s.2 ∧ s.2 ≤ 1000 := HB.out
          obtain ⟨m, hm⟩ : ∃ m, (openB R y).length = m + 1 := ⟨(openB R y).length - 1, by omega⟩
          have hrl : (rowsOf (openB R y)).length = m + 1 := by rw [rowsOf_len, hm]
          have hrow := hG2.row m (by omega)
          rw [gR_rowsOf2 (by omega)] at hrow
          obtain ⟨bu, cu, hVe, hbu1, hbu2, _, _⟩ := Own.pos hrow (by simp)
          have hst := hG2.store (i := m) (g := bu) (cap := cu) (by omega) (by rw [gR_rowsOf2 (by omega)]; exact hVe) 1 (((openB R y).getD m (0, 0)).2 + 1)
          rw [rowsOf_set (by omega)] at hst
          have hup : (openB R y).set m (((openB R y).getD m (0, 0)).1, ((openB R y).getD m (0, 0)).2 + 1) = upLast (openB R y) := by unfold upLast; rw [hm, Nat.add_sub_cancel]
          rw [hup] at hst
          have hcnt := hR2b ((openB R y).getD m (0, 0)) (by simp [List.getD, show m < (openB R y).length by omega])
          rw [hVe] at hrow
          have du1 := Own.cell hrow 1 (by simp)
          have fu1 := Own.free hrow 1
          have gg1 : gI [((openB R y).getD m (0, 0)).1, ((openB R y).getD m (0, 0)).2] 1 = ((openB R y).getD m (0, 0)).2 := rfl
          rw [gg1] at du1
          have dV : w2.cell? ⟨g2, m, none⟩ = some (.slice (some ⟨bu, 0, none⟩) 2 cu) := by
            rcases hG2.own.shape with ⟨he, _⟩ | ⟨g', cap', he, _, _, _, _, h6⟩
            · cases he
            · injection he with he1 _ _
              injection he1 with he1
              injection he1 with he1 _ _
              subst he1
              have := h6 m (by omega)
              rw [this]
              exact congrArg some hVe
          have hbb : Below w.heap.size w (w2.setCell ⟨bu, 1, none⟩ (.int .i64 (((openB R y).getD m (0, 0)).2 + 1))) := hbl2.setCell (p := ⟨bu, 1, none⟩) (by show w.heap.size ≤ bu; omega) _
          have hul : (rowsOf (upLast (openB R y))).length = m + 1 := by rw [rowsOf_len, upLast_len, hm]
          have HFR : Hid (∃ vs', GrowM 2 24 (w2.setCell ⟨bu, 1, none⟩ (.int .i64 (((openB R y).getD m (0, 0)).2 + 1))) w.heap.size (.slice (some ⟨g2, 0, none⟩) (rowsOf (blk (L.take (k + 1)))).length c2) vs' (rowsOf (blk (L.take (k + 1))))) := Lib.hid ⟨_, by rw [HST.out]; show GrowM _ _ _ _ (.slice (some ⟨g2, 0, none⟩) (rowsOf (upLast (openB R y))).length c2) _ (rowsOf (upLast (openB R y))); rw [hul, ← hrl]; exact hst⟩
          have HLN : Hid ((rowsOf (blk (L.take (k + 1)))).length = m + 1) := Lib.hid (by rw [HST.out]; exact hul)
          have HBB := Lib.hid hbb
          generalize ((openB R y).getD m (0, 0)).2 = cnt at *
          have e1 : IntKind.i64.wrap (m : Int) = (m : Int) := IntWalk.i64_in _ (by have := HML.out m hm; omega)
          have e2 : (m : Int) + 1 - 1 = (m : Int) := by omega
          have e3 : (0 : Int) ≤ (m : Int) := by omega
          have e4 : (m : Int) < ((m + 1 : Nat) : Int) := by omega
          have e5 : (m : Int) < (m : Int) + 1 := by omega
          rw [hrl] at *
          clear hst hrow hVe hup hcnt2 hbb hul hrl hG2 hR2b hm gg1 hbl2 hRb hOP
          go_wp2
          obtain ⟨vs', hgv⟩ := HFR.out
          go_roundw
          case rel => exact ⟨k + 1, g2, c2, vs', by omega, by go_num, by rw [HLN.out], hgv, HBB.out⟩
          case measure => simp [intOf]; omega
    · have hke : k = n := by omega
      subst hke
      have hret := retM_mk hG.own hbl
      rw [show L.take k = L by rw [← HN.out, List.take_length]] at hret
      have HR := Lib.hid hret
      have HTK : Hid (L.take k = L) := Lib.hid (by rw [← HN.out, List.take_length])
      rw [HTK.out]
      clear hG hret
      go_wp2
      go_ret
      exact HR.out
end Go.Proofs.Ytiinceflafigeaa
