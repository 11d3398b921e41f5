/- Contract: impl.ParseCluster. -/
import Derived.Test.YtglghdkjppcedaaGreatDoorPart27
import Derived.Test.YtglghdkjppcedaaGreatDoorPart20
import Derived.Test.YtglghdkjppcedaaGreatDoorPart3
import Derived.Deep.DeepCutAuto
namespace Go.Proofs.YtglghdkjppcedaaGreatDoor
open Go.RowKit

theorem take_gI {L : List Int} {k : Nat} (h : k < L.length) : L.take (k + 1) = L.take k ++ [gI L k] := by rw [List.take_succ_eq_append_getElem h, gI_lt h]
theorem clB_nil {w : World} {gb base : Nat} (h : Blk w gb 26 #[.slice none 0 0, .slice none 0 0, .slice none 0 0]) : ClB w gb base (.slice none 0 0) (.slice none 0 0) (.slice none 0 0) [] [] [] :=
  ⟨h, ⟨own_nil _ _ _, own_nil _ _ _, own_nil _ _ _, fun _ h _ => by simp [Value.ownBlock] at h, fun _ h _ => by simp [Value.ownBlock] at h, fun _ h _ => by simp [Value.ownBlock] at h⟩, fun g hg => by rcases hg with h | h | h <;> simp [Value.ownBlock] at h⟩
theorem retCC_err {w w' : World} {c : Int} (hb : Below w.heap.size w w') : RetCC w [] [] [] c (.returned (.tuple #[.agg #[.slice none 0 0, .slice none 0 0, .slice none 0 0], .int .i64 c])) w' :=
  ⟨none, 0, none, 0, none, 0, rfl, ⟨own_nil _ _ _, own_nil _ _ _, own_nil _ _ _, fun _ h _ => by simp [Value.ownBlock] at h, fun _ h _ => by simp [Value.ownBlock] at h, fun _ h _ => by simp [Value.ownBlock] at h⟩, hb⟩
set_option maxRecDepth 100000 in
set_option maxHeartbeats 8000000 in
theorem implPC_c (s : ByteArray) (P S W : List Int) (c : Int) (w : World) (hs : s.size ≤ 137438953472) (hR : PcR (lB s) P S W c) :
    Calls Tryz.prog 23 #[.string s] w (RetCC w P S W c) := by
  obtain ⟨i0, hi, hz0, hz1, hz2⟩ := info_parts Tryz.infoI
  have HR := Lib.hid hR
  clear hR
  have D := (Blk.new w 26 #[.slice none 0 0, .slice none 0 0, .slice none 0 0]).alloc (.cells #[.slice none 0 0, .slice none 0 0, .slice none 0 0] 26)
  have G := Blk.new' (w := w.alloc (.cells #[.slice none 0 0, .slice none 0 0, .slice none 0 0] 26)) (t := 26) (cs := #[.slice none 0 0, .slice none 0 0, .slice none 0 0]) (g := w.heap.size + 1) (by simp)
  have hb0 : Below w.heap.size w ((w.alloc (.cells #[.slice none 0 0, .slice none 0 0, .slice none 0 0] 26)).alloc (.cells #[.slice none 0 0, .slice none 0 0, .slice none 0 0] 26)) := ((Below.refl _ _).alloc (Nat.le_refl _) _).alloc (by simp) _
  have hz0' : w.heap.size + 2 = ((w.alloc (.cells #[.slice none 0 0, .slice none 0 0, .slice none 0 0] 26)).alloc (.cells #[.slice none 0 0, .slice none 0 0, .slice none 0 0] 26)).heap.size := by simp
  go_enter Tryz.func23, Tryz.ntmps23
  go_wp2_with fail
  generalize (w.alloc (.cells #[.slice none 0 0, .slice none 0 0, .slice none 0 0] 26)).alloc (.cells #[.slice none 0 0, .slice none 0 0, .slice none 0 0] 26) = w0 at *
  refine (wordsOf_c s 32 _ hs).mono ?_
  rintro e w1 ⟨a, k, ss, rfl, hrd, hsp, hnew, hb⟩
  have D1 := D.stays hb
  have C1 : ClB w1 (w.heap.size + 1) w1.heap.size (.slice none 0 0) (.slice none 0 0) (.slice none 0 0) [] [] [] := clB_nil (G.stays hb)
  have hB1 := below_step hb0 hb
  have hz1' : w.heap.size + 2 ≤ w1.heap.size := by have := hb.size; omega
  have HSP := Lib.hid hsp
  clear D G hb0 hb hsp
  have hls : ss.length ≤ 137438953473 := by
    have h1 := congrArg List.length HSP.out
    have h2 := spl_size 32 _ (lB s) (Nat.le_refl _)
    rw [List.length_map] at h1
    rw [lB_len] at h2
    omega
  have hpos : 0 < ss.length := by
    have h1 := congrArg List.length HSP.out
    have h2 := spl_ne 32 (lB s)
    rw [List.length_map] at h1
    cases hq : splitL 32 (lB s) with
    | nil => exact absurd hq h2
    | cons x r => rw [hq] at h1; simp at h1; omega
  obtain ⟨bS, oS, cS, he, hbS, hcS⟩ := hrd.cells hpos
  injection he with e1 _ e3
  subst e1 e3
  have hnb : w.heap.size + 2 ≤ bS := by have := hnew bS rfl; omega
  have HCS := Lib.hid hcS
  have HLEN := Lib.hid (show (splitL 32 (lB s)).length = ss.length by rw [← HSP.out]; simp)
  clear hcS hrd hnew
  go_wp2_with fail
  go_loopw [15] (fun iv wr => ∃ (k : Nat) (a b d : Option Addr) (ca cb cd : Nat), k ≤ ss.length ∧ k ≤ 24 ∧ iv = .int .i64 (k : Int) ∧ Hid (∀ i, i < k → imB (gT (splitL 32 (lB s)) i) = true) ∧ ClB wr (w.heap.size + 1) w1.heap.size (.slice a k ca) (.slice b k cb) (.slice d k cd) ((imPs (lB s)).take k) ((imSs (lB s)).take k) ((imWs (lB s)).take k) ∧ Blk wr w.heap.size 26 #[.slice none 0 0, .slice none 0 0, .slice none 0 0] ∧ Keeps (fun q => q = w.heap.size + 1) w1 wr) (fun iv _ => ss.length - (intOf iv).toNat)
  case atStart => exact ⟨0, none, none, none, 0, 0, 0, Nat.zero_le _, by omega, rfl, Lib.hid (fun i hi => by omega), by simpa using C1, D1, Keeps.refl _ _⟩
  case round =>
    obtain ⟨k, a, b, d, ca, cb, cd, hk, hk24, rfl, HI, hC, hD, hK⟩ := hrel
    obtain ⟨wo, rfl⟩ : ∃ wo : World, wo = wr := ⟨_, rfl⟩
    clear C1 D1
    by_cases hlt : k < ss.length
    · have hki : (k : Int) < (ss.length : Int) := by omega
      have hk0 : (0 : Int) ≤ (k : Int) := by omega
      have dS := HCS.out k hlt
      rw [← hK.cell (p := ⟨bS, oS + k, none⟩) hbS (by show ¬ bS = w.heap.size + 1; omega)] at dS
      obtain ⟨hx, hxs⟩ := parts_at HSP.out hlt
      rw [lB_len] at hxs
      have HX := Lib.hid hx
      clear hx
      generalize gS ss k = x at *
      go_wp2_with fail
      refine (pointOf_c x _ (by omega)).mono ?_
      rintro e w2 ⟨y0, y1, y2, rfl, hy, hd⟩
      rw [HX.out] at hy ⊢
      have hb2 := hd.below wo.heap.size
      have hC2 := hC.below hb2
      have hD2 := hD.stays hb2
      have hK2 := hK.trans (Keeps.of_below hb2)
      have HY := Lib.hid hy
      clear dS hC hD hK hd hb2 hy
      have hLP : ((imPs (lB s)).take k).length = k := by simp [imPs]; have := HLEN.out; omega
      have hLS : ((imSs (lB s)).take k).length = k := by simp [imSs]; have := HLEN.out; omega
      have hLW : ((imWs (lB s)).take k).length = k := by simp [imWs]; have := HLEN.out; omega
      cases hok : imB (gT (splitL 32 (lB s)) k)
      · obtain ⟨rfl, rfl, rfl, rfl⟩ := pim_no HR.out (fun h => by have := h.1 k (by rw [HLEN.out]; exact hlt); rw [hok] at this; cases this)
        have hBw := hB1.trans (hK2.below (B := w.heap.size) hB1.size (fun q e => by omega))
        have f0 := hD2.free 0
        have f1 := hD2.free 1
        have f2 := hD2.free 2
        have e0 := hD2.cell 0
        have e1 := hD2.cell 1
        have e2 := hD2.cell 2
        have q0 := (((hD2.set 0 (.slice none 0 0)).set 1 (.slice none 0 0)).set 2 (.slice none 0 0)).cell 0
        have q1 := (((hD2.set 0 (.slice none 0 0)).set 1 (.slice none 0 0)).set 2 (.slice none 0 0)).cell 1
        have q2 := (((hD2.set 0 (.slice none 0 0)).set 1 (.slice none 0 0)).set 2 (.slice none 0 0)).cell 2
        have hfin := (((hBw.setCell (p := ⟨w.heap.size, 0, none⟩) (Nat.le_refl _) (.slice none 0 0)).setCell (p := ⟨w.heap.size, 1, none⟩) (Nat.le_refl _) (.slice none 0 0)).setCell (p := ⟨w.heap.size, 2, none⟩) (Nat.le_refl _) (.slice none 0 0))
        clear hC2 hK2 HY hok hBw hLP hLS hLW
        go_wp2
        exact bodyPost_ret (v := .tuple #[.agg #[.slice none 0 0, .slice none 0 0, .slice none 0 0], .int .i64 6]) (by simp [results, Tryz.results23, go_sem, q0, q1, q2]) rfl (retCC_err hfin)
      · by_cases h24 : k = 24
        · obtain ⟨rfl, rfl, rfl, rfl⟩ := pim_no HR.out (fun h => by have := h.2.1; rw [HLEN.out] at this; omega)
          have hBw := hB1.trans (hK2.below (B := w.heap.size) hB1.size (fun q e => by omega))
          have c2 := hC2.blk.cell 2
          have hkb : ((k : Int) == 24) = true := by rw [h24]; rfl
          have f0 := hD2.free 0
          have f1 := hD2.free 1
          have f2 := hD2.free 2
          have e0 := hD2.cell 0
          have e1 := hD2.cell 1
          have e2 := hD2.cell 2
          have q0 := (((hD2.set 0 (.slice none 0 0)).set 1 (.slice none 0 0)).set 2 (.slice none 0 0)).cell 0
          have q1 := (((hD2.set 0 (.slice none 0 0)).set 1 (.slice none 0 0)).set 2 (.slice none 0 0)).cell 1
          have q2 := (((hD2.set 0 (.slice none 0 0)).set 1 (.slice none 0 0)).set 2 (.slice none 0 0)).cell 2
          have hfin := (((hBw.setCell (p := ⟨w.heap.size, 0, none⟩) (Nat.le_refl _) (.slice none 0 0)).setCell (p := ⟨w.heap.size, 1, none⟩) (Nat.le_refl _) (.slice none 0 0)).setCell (p := ⟨w.heap.size, 2, none⟩) (Nat.le_refl _) (.slice none 0 0))
          clear hC2 hK2 HY hok hBw hLP hLS hLW h24
          go_wp2
          exact bodyPost_ret (v := .tuple #[.agg #[.slice none 0 0, .slice none 0 0, .slice none 0 0], .int .i64 6]) (by simp [results, Tryz.results23, go_sem, q0, q1, q2]) rfl (retCC_err hfin)
        · have hkb : ((k : Int) == 24) = false := by rw [beq_eq_false_iff_ne]; omega
          have hk23 : k + 1 ≤ 24 := by omega
          obtain ⟨h1, h2, h3⟩ := HY.out hok
          have hks : k < (splitL 32 (lB s)).length := by rw [HLEN.out]; exact hlt
          have nP : (imPs (lB s)).take (k + 1) = (imPs (lB s)).take k ++ [y1] := by rw [take_gI (by simpa [imPs] using hks), h2]; unfold imPs; rw [gI_mapT hks]
          have nS : (imSs (lB s)).take (k + 1) = (imSs (lB s)).take k ++ [y2] := by rw [take_gI (by simpa [imSs] using hks), h3]; unfold imSs; rw [gI_mapT hks]
          have nW : (imWs (lB s)).take (k + 1) = (imWs (lB s)).take k ++ [y0] := by rw [take_gI (by simpa [imWs] using hks), h1]; unfold imWs; rw [gI_mapT hks]
          have HI2 : Hid (∀ i, i < k + 1 → imB (gT (splitL 32 (lB s)) i) = true) := Lib.hid (fun i hi => by
            by_cases e : i = k
            · subst e; exact hok
            · exact HI.out i (by omega))
          generalize (imPs (lB s)).take k = PA at *
          generalize (imSs (lB s)).take k = SA at *
          generalize (imWs (lB s)).take k = WA at *
          have NP := Lib.hid nP
          have NS := Lib.hid nS
          have NW := Lib.hid nW
          have HLPA := Lib.hid hLP
          have HLSA := Lib.hid hLS
          have HLWA := Lib.hid hLW
          clear HI HY hok h24 h1 h2 h3 hks nP nS nW hLP hLS hLW
          have c2 := hC2.blk.cell 2
          have l4 := hC2.blk.lt
          have c0 := hC2.blk.cell 2
          have f0 := hC2.blk.free 2
          have hz : w1.heap.size ≤ w2.heap.size := hK2.size
          go_upto_region 9 with (at_builtin; refine wpList_pushL rfl (.tmp 36) (.tmp 38) 24 rfl w1.heap.size 2 i0 Tryz.underlying24 hi hz0 hz1 hz2 (.slice d k cd) WA y0 rfl hC2.own.c rfl (by rw [HLWA.out]; omega) hz ?_; intro g2 kg2 w3 ho hk2 hl; rw [HLWA.out] at ho ⊢; have hcell := (hk2.cell (p := ⟨w.heap.size + 1, 2, none⟩) l4 (fun e => hC2.ne _ (.inr (.inr e)) rfl)).trans c0; have hfree := (hk2.frozen (p := ⟨w.heap.size + 1, 2, none⟩) l4 (fun e => hC2.ne _ (.inr (.inr e)) rfl)).trans f0)
          have hC3 := hC2.push2 ho hk2 hl
          have hkk := keeps_push (gb := w.heap.size + 1) (base := w1.heap.size) (j := 2) (u := .slice (some ⟨g2, 0, none⟩) (k + 1) kg2) hk2 (fun k e => (hC2.own.c.block k e).1)
          have hK3 := hK2.joinK hkk (fun q hq e => by omega)
          have hD3 := hD2.keeps hkk (by omega)
          clear c2 hC2 hK2 hD2 ho hk2 hl hcell hfree c0 f0 hkk
          generalize w3.setCell ⟨w.heap.size + 1, 2, none⟩ (.slice (some ⟨g2, 0, none⟩) (k + 1) kg2) = w4 at *
          have l4 := hC3.blk.lt
          have c0 := hC3.blk.cell 0
          have f0 := hC3.blk.free 0
          have hz : w1.heap.size ≤ w4.heap.size := hK3.size
          go_upto_region 10 with (at_builtin; refine wpList_pushL rfl (.tmp 42) (.tmp 44) 24 rfl w1.heap.size 2 i0 Tryz.underlying24 hi hz0 hz1 hz2 (.slice a k ca) PA y1 rfl hC3.own.a rfl (by rw [HLPA.out]; omega) hz ?_; intro g0 kg0 w5 ho hk2 hl; rw [HLPA.out] at ho ⊢; have hcell := (hk2.cell (p := ⟨w.heap.size + 1, 0, none⟩) l4 (fun e => hC3.ne _ (.inl e) rfl)).trans c0; have hfree := (hk2.frozen (p := ⟨w.heap.size + 1, 0, none⟩) l4 (fun e => hC3.ne _ (.inl e) rfl)).trans f0)
          have hC4 := hC3.push0 ho hk2 hl
          have hkk := keeps_push (gb := w.heap.size + 1) (base := w1.heap.size) (j := 0) (u := .slice (some ⟨g0, 0, none⟩) (k + 1) kg0) hk2 (fun k e => (hC3.own.a.block k e).1)
          have hK4 := hK3.joinK hkk (fun q hq e => by omega)
          have hD4 := hD3.keeps hkk (by omega)
          clear hC3 hK3 hD3 ho hk2 hl hcell hfree c0 f0 hkk
          generalize w5.setCell ⟨w.heap.size + 1, 0, none⟩ (.slice (some ⟨g0, 0, none⟩) (k + 1) kg0) = w6 at *
          have l4 := hC4.blk.lt
          have c0 := hC4.blk.cell 1
          have f0 := hC4.blk.free 1
          have hz : w1.heap.size ≤ w6.heap.size := hK4.size
          go_wp2_with (at_builtin; refine wpList_pushL rfl (.tmp 48) (.tmp 50) 24 rfl w1.heap.size 2 i0 Tryz.underlying24 hi hz0 hz1 hz2 (.slice b k cb) SA y2 rfl hC4.own.b rfl (by rw [HLSA.out]; omega) hz ?_; intro g1 kg1 w7 ho hk2 hl; rw [HLSA.out] at ho ⊢; have hcell := (hk2.cell (p := ⟨w.heap.size + 1, 1, none⟩) l4 (fun e => hC4.ne _ (.inr (.inl e)) rfl)).trans c0; have hfree := (hk2.frozen (p := ⟨w.heap.size + 1, 1, none⟩) l4 (fun e => hC4.ne _ (.inr (.inl e)) rfl)).trans f0)
          have hC5 := hC4.push1 ho hk2 hl
          have hkk := keeps_push (gb := w.heap.size + 1) (base := w1.heap.size) (j := 1) (u := .slice (some ⟨g1, 0, none⟩) (k + 1) kg1) hk2 (fun k e => (hC4.own.b.block k e).1)
          have hK5 := hK4.joinK hkk (fun q hq e => by omega)
          have hD5 := hD4.keeps hkk (by omega)
          clear hC4 hK4 hD4 ho hk2 hl hcell hfree c0 f0 hkk
          generalize w7.setCell ⟨w.heap.size + 1, 1, none⟩ (.slice (some ⟨g1, 0, none⟩) (k + 1) kg1) = w8 at *
          rw [← NP.out, ← NS.out, ← NW.out] at hC5
          go_roundw
          case rel => exact ⟨k + 1, _, _, _, _, _, _, by omega, by omega, by go_num, HI2, hC5, hD5, hK5⟩
          case measure => simp [intOf]; omega
    · have hke : k = ss.length := by omega
      have hki : ¬ (k : Int) < (ss.length : Int) := by omega
      have eP : (imPs (lB s)).take k = imPs (lB s) := List.take_of_length_le (by simp [imPs]; have := HLEN.out; omega)
      have eS : (imSs (lB s)).take k = imSs (lB s) := List.take_of_length_le (by simp [imSs]; have := HLEN.out; omega)
      have eW : (imWs (lB s)).take k = imWs (lB s) := List.take_of_length_le (by simp [imWs]; have := HLEN.out; omega)
      rw [eP, eS, eW] at hC
      have lP : (imPs (lB s)).length = k := by simp [imPs]; have := HLEN.out; omega
      have lS : (imSs (lB s)).length = k := by simp [imSs]; have := HLEN.out; omega
      have lW : (imWs (lB s)).length = k := by simp [imWs]; have := HLEN.out; omega
      have HA : Hid (allIm (lB s)) := Lib.hid (fun i hi => HI.out i (by have := HLEN.out; omega))
      have H24 : Hid ((splitL 32 (lB s)).length ≤ 24) := Lib.hid (by rw [HLEN.out]; omega)
      have LP := Lib.hid lP
      have LS := Lib.hid lS
      have LW := Lib.hid lW
      have hBw := hB1.trans (hK.below (B := w.heap.size) hB1.size (fun q e => by omega))
      have c0 := hC.blk.cell 0
      have c1 := hC.blk.cell 1
      have c2 := hC.blk.cell 2
      have hzz : w1.heap.size ≤ wo.heap.size := hK.size
      clear eP eS eW lP lS lW HI hke hK
      go_wp2_with fail
      refine (implIsCluster_c _ _ _ (imPs (lB s)) (imSs (lB s)) (imWs (lB s)) _ hC.own.a.rd hC.own.b.rd hC.own.c.rd).mono ?_
      rintro e w2 ⟨rfl, hb2⟩
      have hC2 := hC.below hb2
      have hD2 := hD.stays hb2
      have hBw := below_step hBw hb2
      have hz2 := hb2.size
      clear c0 c1 c2 hC hD hb2
      cases hcl : cluB (imPs (lB s)) (imSs (lB s)) (imWs (lB s))
      · obtain ⟨rfl, rfl, rfl, rfl⟩ := pim_no HR.out (fun h => by have := h.2.2; rw [hcl] at this; cases this)
        have f0 := hD2.free 0
        have f1 := hD2.free 1
        have f2 := hD2.free 2
        have e0 := hD2.cell 0
        have e1 := hD2.cell 1
        have e2 := hD2.cell 2
        have q0 := (((hD2.set 0 (.slice none 0 0)).set 1 (.slice none 0 0)).set 2 (.slice none 0 0)).cell 0
        have q1 := (((hD2.set 0 (.slice none 0 0)).set 1 (.slice none 0 0)).set 2 (.slice none 0 0)).cell 1
        have q2 := (((hD2.set 0 (.slice none 0 0)).set 1 (.slice none 0 0)).set 2 (.slice none 0 0)).cell 2
        have hfin := (((hBw.setCell (p := ⟨w.heap.size, 0, none⟩) (Nat.le_refl _) (.slice none 0 0)).setCell (p := ⟨w.heap.size, 1, none⟩) (Nat.le_refl _) (.slice none 0 0)).setCell (p := ⟨w.heap.size, 2, none⟩) (Nat.le_refl _) (.slice none 0 0))
        clear hC2 hBw hcl
        go_wp2
        exact bodyPost_ret (v := .tuple #[.agg #[.slice none 0 0, .slice none 0 0, .slice none 0 0], .int .i64 6]) (by simp [results, Tryz.results23, go_sem, q0, q1, q2]) rfl (retCC_err hfin)
      · obtain ⟨rfl, rfl, rfl, rfl⟩ := pim_yes HR.out HA.out hcl
        generalize imPs (lB s) = PA at *
        generalize imSs (lB s) = SA at *
        generalize imWs (lB s) = WA at *
        have c0 := hC2.blk.cell 0
        have c1 := hC2.blk.cell 1
        have c2 := hC2.blk.cell 2
        have f0 := hD2.free 0
        have f1 := hD2.free 1
        have f2 := hD2.free 2
        have e0 := hD2.cell 0
        have e1 := hD2.cell 1
        have e2 := hD2.cell 2
        have F := ((hD2.set 0 (.slice a k ca)).set 1 (.slice b k cb)).set 2 (.slice d k cd)
        have q0 := F.cell 0
        have q1 := F.cell 1
        have q2 := F.cell 2
        have hk5 : Keeps (fun q => q = w.heap.size) w2 (((w2.setCell ⟨w.heap.size, 0, none⟩ (.slice a k ca)).setCell ⟨w.heap.size, 1, none⟩ (.slice b k cb)).setCell ⟨w.heap.size, 2, none⟩ (.slice d k cd)) := (((Keeps.refl (fun q => q = w.heap.size) w2).setCell (p := ⟨w.heap.size, 0, none⟩) rfl _).setCell (p := ⟨w.heap.size, 1, none⟩) rfl _).setCell (p := ⟨w.heap.size, 2, none⟩) rfl _
        have ho5 := (hC2.own.keeps hk5 (fun g hg e => by have := (hC2.own.block g hg).1; omega)).base_le (base' := w.heap.size) (by omega)
        have hfin : Below w.heap.size w _ := hBw.trans (hk5.below hBw.size (fun q e => by omega))
        have HF : Hid (RetCC w PA SA WA 0 (.returned (.tuple #[.agg #[.slice a k ca, .slice b k cb, .slice d k cd], .int .i64 0])) (((w2.setCell ⟨w.heap.size, 0, none⟩ (.slice a k ca)).setCell ⟨w.heap.size, 1, none⟩ (.slice b k cb)).setCell ⟨w.heap.size, 2, none⟩ (.slice d k cd))) := Lib.hid ⟨a, ca, b, cb, d, cd, by rw [LP.out, LS.out, LW.out], by rw [LP.out, LS.out, LW.out]; exact ho5, hfin⟩
        clear hC2 hBw hcl hk5 ho5 hfin F
        go_wp2
        exact bodyPost_ret (v := .tuple #[.agg #[.slice a k ca, .slice b k cb, .slice d k cd], .int .i64 0]) (by simp [results, Tryz.results23, go_sem, q0, q1, q2]) rfl HF.out
end Go.Proofs.YtglghdkjppcedaaGreatDoor

/- Contracts: spec.l01Value, l07Integer. -/
namespace Go.Proofs.YtglghdkjppcedaaGreatDoor
open Go.RowKit

theorem dg_get (s : ByteArray) : ∀ k (h : k < s.size), digB (s[k]'h) = true → valN ((lB s).take (k + 1)) = valN ((lB s).take k) * 10 + ((s[k]'h).toNat - 48) := by
  intro k h _
  have h' : k < (lB s).length := by rw [lB_len]; exact h
  rw [take_dig h', valN_snoc, lB_get h h']
theorem dg_all (s : ByteArray) : ∀ k (h : k < s.size), (∀ x ∈ (lB s).take k, digB x = true) → digB (s[k]'h) = true → ∀ x ∈ (lB s).take (k + 1), digB x = true := by
  intro k h h1 h2 x hx
  have h' : k < (lB s).length := by rw [lB_len]; exact h
  rw [take_dig h', lB_get h h', List.mem_append] at hx
  rcases hx with hx | hx
  · exact h1 x hx
  · simp only [List.mem_singleton] at hx; rw [hx]; exact h2
theorem dg_no (s : ByteArray) : ∀ k (h : k < s.size), digB (s[k]'h) = false → numB (lB s) = false := by
  intro k h h1
  have h' : k < (lB s).length := by rw [lB_len]; exact h
  cases c : numB (lB s)
  · rfl
  · have := (canB_iff.1 (numB_iff.1 c).1).2.1 _ (List.getElem_mem h')
    rw [lB_get h h', h1] at this; cases this
theorem dg_ten (s : ByteArray) : 9 < s.size → numB (lB s) = false := by
  intro h
  cases c : numB (lB s)
  · rfl
  · have := (numB_iff.1 c).2
    rw [lB_len] at this; omega
theorem dg_zero (s : ByteArray) : s.size = 0 → numB (lB s) = false := by
  intro h
  cases c : numB (lB s)
  · rfl
  · have := (canB_iff.1 (numB_iff.1 c).1).1
    have h2 : lB s = [] := List.eq_nil_of_length_eq_zero (by rw [lB_len]; exact h)
    exact absurd h2 this
theorem dg_lead (s : ByteArray) : ∀ (h : 0 < s.size), 1 < s.size → (s[0]'h).toNat = 48 → numB (lB s) = false := by
  intro h h1 h2
  cases c : numB (lB s)
  · rfl
  · have h3 := (canB_iff.1 (numB_iff.1 c).1).2.2 (by rw [lB_len]; exact h1)
    exfalso
    apply h3
    have h' : 0 < (lB s).length := by rw [lB_len]; exact h
    rw [List.head?_eq_getElem?, List.getElem?_eq_getElem h', lB_get h h']
    congr 1
    exact UInt8.toNat_inj.1 (by rw [h2]; rfl)
theorem dg_yes (s : ByteArray) : ∀ (h : 0 < s.size), s.size ≤ 9 → (∀ x ∈ (lB s).take s.size, digB x = true) → (1 < s.size → (s[0]'h).toNat ≠ 48) → numB (lB s) = true := by
  intro h h9 h1 h2
  have e : (lB s).take s.size = lB s := List.take_of_length_le (by rw [lB_len]; exact Nat.le_refl _)
  rw [e] at h1
  refine numB_iff.2 ⟨canB_iff.2 ⟨fun e => ?_, h1, fun h3 h4 => ?_⟩, by rw [lB_len]; exact h9⟩
  · have h5 := congrArg List.length e; rw [lB_len] at h5; have h6 : s.size = 0 := h5; omega
  · rw [lB_len] at h3
    have h' : 0 < (lB s).length := by rw [lB_len]; exact h
    rw [List.head?_eq_getElem?, List.getElem?_eq_getElem h', lB_get h h'] at h4
    injection h4 with h4
    apply h2 h3
    rw [h4]; rfl
theorem dg_val (s : ByteArray) : ∀ k, k ≤ 9 → k ≤ s.size → (∀ x ∈ (lB s).take k, digB x = true) → valN ((lB s).take k) < 1000000000 := by
  intro k h9 hk h1
  have h2 := valN_bd _ h1
  rw [List.length_take, lB_len] at h2
  have h3 : 10 ^ min k s.size ≤ 10 ^ 9 := Nat.pow_le_pow_right (by omega) (by omega)
  omega
theorem dg_all2 (s : ByteArray) : valN ((lB s).take s.size) = valN (lB s) := by rw [List.take_of_length_le (by rw [lB_len]; exact Nat.le_refl _)]
set_option maxHeartbeats 4000000 in
theorem l01Value_c (s : ByteArray) (w : World) (hs : s.size ≤ 137438953472) :
    Calls Tryz.prog 61 #[.string s] w fun e w' => e = .returned (.int .i64 (valI (lB s))) ∧ w = w' := by
  by_cases h0 : s.size = 0
  · have hv := valI_no (dg_zero s h0)
    have HV := Lib.hid hv
    have hb : ((s.size : Int) == 0) = true := by rw [h0]; rfl
    clear hv h0
    go_enter Tryz.func61, Tryz.ntmps61
    go_wp2
    go_ret
    exact ⟨by rw [HV.out]; rfl, rfl⟩
  · have hb : ((s.size : Int) == 0) = false := beq_eq_false_iff_ne.2 (by omega)
    by_cases h9 : 9 < s.size
    · have hv := valI_no (dg_ten s h9)
      have HV := Lib.hid hv
      have hg : (s.size : Int) > 9 := by omega
      clear hv h0 h9
      go_enter Tryz.func61, Tryz.ntmps61
      go_wp2
      go_ret
      exact ⟨by rw [HV.out]; rfl, rfl⟩
    · have hg : ¬ (s.size : Int) > 9 := by omega
      have hp : 0 < s.size := by omega
      by_cases h1 : 1 < s.size
      · have h1g : (s.size : Int) > 1 := by omega
        by_cases hz : (s[0]'hp).toNat = 48
        · have hv := valI_no (dg_lead s hp h1 hz)
          have HV := Lib.hid hv
          have hzb : (((s[0]'hp).toNat : Int) == 48) = true := by rw [hz]; rfl
          clear hv hz h0 h1 h9
          go_enter Tryz.func61, Tryz.ntmps61
          go_wp2
          go_ret
          exact ⟨by rw [HV.out]; rfl, rfl⟩
        · have hzb : (((s[0]'hp).toNat : Int) == 48) = false := beq_eq_false_iff_ne.2 (by omega)
          have HY := Lib.hid (dg_yes s hp (by omega))
          have HL : Hid (1 < s.size → (s[0]'hp).toNat ≠ 48) := Lib.hid (fun _ => hz)
          have HG := Lib.hid (dg_get s)
          have HA := Lib.hid (dg_all s)
          have HN := Lib.hid (dg_no s)
          have HV := Lib.hid (dg_val s)
          have H2 := Lib.hid (dg_all2 s)
          clear hz h0
          go_enter Tryz.func61, Tryz.ntmps61
          go_wp2
          go_loop [3, 4] (fun nv iv => ∃ k : Nat, k ≤ s.size ∧ iv = .int .i64 (k : Int) ∧ nv = .int .i64 ((valN ((lB s).take k) : Nat) : Int) ∧ Hid (∀ x ∈ (lB s).take k, digB x = true)) (fun _ iv => s.size - (intOf iv).toNat)
          case atStart => exact ⟨0, Nat.zero_le _, rfl, rfl, Lib.hid (by simp)⟩
          case round =>
            obtain ⟨k, hk, rfl, rfl, HD⟩ := hrel
            have hv := HV.out k (by omega) hk HD.out
            by_cases hlt : k < s.size
            · have hu := (s[k]'hlt).toNat_lt
              have hki : (k : Int) < (s.size : Int) := by omega
              cases hd : digB (s[k]'hlt)
              · have HF := Lib.hid (valI_no (HN.out k hlt hd))
                have hnd : ¬ ((48 : Int) ≤ ((s[k]'hlt).toNat : Int) ∧ ((s[k]'hlt).toNat : Int) ≤ 57) := fun h => by rw [dig_ge.2 h] at hd; cases hd
                clear hd HY HL HG HA HN HV H2 HD hv
                generalize valN ((lB s).take k) = n at *
                by_cases h48 : ((s[k]'hlt).toNat : Int) < 48
                · clear hnd
                  go_wp2
                  go_ret
                  exact ⟨by rw [HF.out]; rfl, rfl⟩
                · have h57 : ((s[k]'hlt).toNat : Int) > 57 := by omega
                  clear hnd
                  go_wp2
                  go_ret
                  exact ⟨by rw [HF.out]; rfl, rfl⟩
              · obtain ⟨h48, h57⟩ := dig_ge.1 hd
                have h48' : ¬ ((s[k]'hlt).toNat : Int) < 48 := by omega
                have h57' : ¬ ((s[k]'hlt).toNat : Int) > 57 := by omega
                have HGK := Lib.hid (HG.out k hlt hd)
                have HDK := Lib.hid (HA.out k hlt HD.out hd)
                have hn10 : ((valN ((lB s).take k) : Nat) : Int) < 1000000000 := by omega
                have hk9 : k < 9 := by omega
                clear hd HY HL HG HA HN HV H2 HD hv
                generalize valN ((lB s).take k) = n at *
                have hw1 : IntKind.u8.wrap (((s[k]'hlt).toNat : Int) - 48) = ((s[k]'hlt).toNat : Int) - 48 := IntWalk.u8_in _ (by omega)
                have HR : Hid ((n : Int) * 10 + (((s[k]'hlt).toNat : Int) - 48) = ((n * 10 + ((s[k]'hlt).toNat - 48) : Nat) : Int)) := Lib.hid (by omega)
                go_wp2
                go_round
                case rel => exact ⟨k + 1, by omega, by go_num, by rw [HGK.out, ← HR.out], HDK⟩
                case measure => simp [intOf]; omega
            · have hke : k = s.size := by omega
              have hki : ¬ (k : Int) < (s.size : Int) := by omega
              have HF : Hid (valI (lB s) = ((valN ((lB s).take k) : Nat) : Int)) := Lib.hid (by rw [valI_yes (HY.out (by rw [← hke]; exact HD.out) HL.out), hke, H2.out])
              clear HY HL HG HA HN HV H2 HD hv hke
              generalize valN ((lB s).take k) = n at *
              go_wp2
              go_ret
              exact ⟨by rw [HF.out]; rfl, rfl⟩
      · have h1g : ¬ (s.size : Int) > 1 := by omega
        have HY := Lib.hid (dg_yes s hp (by omega))
        have HL : Hid (1 < s.size → (s[0]'hp).toNat ≠ 48) := Lib.hid (fun h => absurd h h1)
        have HG := Lib.hid (dg_get s)
        have HA := Lib.hid (dg_all s)
        have HN := Lib.hid (dg_no s)
        have HV := Lib.hid (dg_val s)
        have H2 := Lib.hid (dg_all2 s)
        clear h0 h1
        go_enter Tryz.func61, Tryz.ntmps61
        go_wp2
        go_loop [3, 4] (fun nv iv => ∃ k : Nat, k ≤ s.size ∧ iv = .int .i64 (k : Int) ∧ nv = .int .i64 ((valN ((lB s).take k) : Nat) : Int) ∧ Hid (∀ x ∈ (lB s).take k, digB x = true)) (fun _ iv => s.size - (intOf iv).toNat)
        case atStart => exact ⟨0, Nat.zero_le _, rfl, rfl, Lib.hid (by simp)⟩
        case round =>
          obtain ⟨k, hk, rfl, rfl, HD⟩ := hrel
          have hv := HV.out k (by omega) hk HD.out
          by_cases hlt : k < s.size
          · have hu := (s[k]'hlt).toNat_lt
            have hki : (k : Int) < (s.size : Int) := by omega
            cases hd : digB (s[k]'hlt)
            · have HF := Lib.hid (valI_no (HN.out k hlt hd))
              have hnd : ¬ ((48 : Int) ≤ ((s[k]'hlt).toNat : Int) ∧ ((s[k]'hlt).toNat : Int) ≤ 57) := fun h => by rw [dig_ge.2 h] at hd; cases hd
              clear hd HY HL HG HA HN HV H2 HD hv
              generalize valN ((lB s).take k) = n at *
              by_cases h48 : ((s[k]'hlt).toNat : Int) < 48
              · clear hnd
                go_wp2
                go_ret
                exact ⟨by rw [HF.out]; rfl, rfl⟩
              · have h57 : ((s[k]'hlt).toNat : Int) > 57 := by omega
                clear hnd
                go_wp2
                go_ret
                exact ⟨by rw [HF.out]; rfl, rfl⟩
            · obtain ⟨h48, h57⟩ := dig_ge.1 hd
              have h48' : ¬ ((s[k]'hlt).toNat : Int) < 48 := by omega
              have h57' : ¬ ((s[k]'hlt).toNat : Int) > 57 := by omega
              have HGK := Lib.hid (HG.out k hlt hd)
              have HDK := Lib.hid (HA.out k hlt HD.out hd)
              have hn10 : ((valN ((lB s).take k) : Nat) : Int) < 1000000000 := by omega
              have hk9 : k < 9 := by omega
              clear hd HY HL HG HA HN HV H2 HD hv
              generalize valN ((lB s).take k) = n at *
              have hw1 : IntKind.u8.wrap (((s[k]'hlt).toNat : Int) - 48) = ((s[k]'hlt).toNat : Int) - 48 := IntWalk.u8_in _ (by omega)
              have HR : Hid ((n : Int) * 10 + (((s[k]'hlt).toNat : Int) - 48) = ((n * 10 + ((s[k]'hlt).toNat - 48) : Nat) : Int)) := Lib.hid (by omega)
              go_wp2
              go_round
              case rel => exact ⟨k + 1, by omega, by go_num, by rw [HGK.out, ← HR.out], HDK⟩
              case measure => simp [intOf]; omega
          · have hke : k = s.size := by omega
            have hki : ¬ (k : Int) < (s.size : Int) := by omega
            have HF : Hid (valI (lB s) = ((valN ((lB s).take k) : Nat) : Int)) := Lib.hid (by rw [valI_yes (HY.out (by rw [← hke]; exact HD.out) HL.out), hke, H2.out])
            clear HY HL HG HA HN HV H2 HD hv hke
            generalize valN ((lB s).take k) = n at *
            go_wp2
            go_ret
            exact ⟨by rw [HF.out]; rfl, rfl⟩
set_option maxHeartbeats 2000000 in
theorem l07Integer_c (s : ByteArray) (w : World) (hs : s.size ≤ 137438953472) :
    Calls Tryz.prog 62 #[.string s] w fun e w' => e = .returned (.int .i64 (intI (lB s))) ∧ w = w' := by
  by_cases hp : 0 < s.size
  · have hpg : (s.size : Int) > 0 := by omega
    by_cases h45 : s[0]'hp = 45
    · have hb : (((s[0]'hp).toNat : Int) == 45) = true := by rw [h45]; rfl
      have hx : lB s = 45 :: lB (s.extract 1 s.size) := by
        rw [lB_cut]
        have hp' : 0 < (lB s).length := by rw [lB_len]; exact hp
        conv => lhs; rw [← List.drop_zero (l := lB s), List.drop_eq_getElem_cons hp', lB_get hp hp', h45]
        rw [List.take_of_length_le (by simp [lB_len])]
      have hsz : (s.extract 1 s.size).size ≤ 137438953472 := by simp; omega
      have HX : Hid (intI (lB s) = if valI (lB (s.extract 1 s.size)) < 0 then 100001 else -(valI (lB (s.extract 1 s.size)))) := Lib.hid (by conv => lhs; rw [hx, intI_neg])
      clear hx h45
      go_enter Tryz.func62, Tryz.ntmps62
      go_wp2_with fail
      refine (l01Value_c _ _ hsz).mono ?_
      rintro e w1 ⟨rfl, rfl⟩
      have hbd := valI_bd (lB (s.extract 1 s.size))
      generalize valI (lB (s.extract 1 s.size)) = n at *
      by_cases hn : n < 0
      · have HF : Hid (intI (lB s) = 100001) := Lib.hid (by rw [HX.out, if_pos hn])
        clear HX hsz
        go_wp2
        go_ret
        exact ⟨by rw [HF.out]; rfl, rfl⟩
      · have HF : Hid (intI (lB s) = -n) := Lib.hid (by rw [HX.out, if_neg hn])
        have hw : IntKind.i64.wrap (-1 * n) = -n := by rw [IntWalk.i64_in _ (by omega)]; omega
        clear HX hsz
        go_wp2
        go_ret
        exact ⟨by rw [HF.out]; congr 2, rfl⟩
    · have hb : (((s[0]'hp).toNat : Int) == 45) = false := by
        rw [beq_eq_false_iff_ne]
        intro e
        exact h45 (UInt8.toNat_inj.1 (by show (s[0]'hp).toNat = 45; omega))
      have hh : (lB s).head? ≠ some 45 := by
        have hp' : 0 < (lB s).length := by rw [lB_len]; exact hp
        rw [List.head?_eq_getElem?, List.getElem?_eq_getElem hp', lB_get hp hp']
        intro e; exact h45 (Option.some.inj e)
      have HX := Lib.hid (intI_nn hh)
      clear hh h45
      go_enter Tryz.func62, Tryz.ntmps62
      go_wp2_with fail
      refine (l01Value_c _ _ hs).mono ?_
      rintro e w1 ⟨rfl, rfl⟩
      have hbd := valI_bd (lB s)
      generalize valI (lB s) = n at *
      by_cases hn : n < 0
      · have HF : Hid (intI (lB s) = 100001) := Lib.hid (by rw [HX.out, if_pos hn])
        clear HX
        go_wp2
        go_ret
        exact ⟨by rw [HF.out]; rfl, rfl⟩
      · have HF : Hid (intI (lB s) = n) := Lib.hid (by rw [HX.out, if_neg hn])
        have hw : IntKind.i64.wrap (1 * n) = n := by rw [IntWalk.i64_in _ (by omega)]; omega
        clear HX
        go_wp2
        go_ret
        exact ⟨by rw [HF.out]; congr 2, rfl⟩
  · have hpg : ¬ (s.size : Int) > 0 := by omega
    have hl : lB s = [] := List.eq_nil_of_length_eq_zero (by rw [lB_len]; omega)
    have HX : Hid (intI (lB s) = 100001 ∧ valI (lB s) = -1) := Lib.hid (by rw [hl]; exact ⟨rfl, rfl⟩)
    clear hl
    go_enter Tryz.func62, Tryz.ntmps62
    go_wp2_with fail
    refine (l01Value_c _ _ hs).mono ?_
    rintro e w1 ⟨rfl, rfl⟩
    rw [HX.out.2]
    go_wp2
    go_ret
    exact ⟨by rw [HX.out.1]; rfl, rfl⟩
end Go.Proofs.YtglghdkjppcedaaGreatDoor
