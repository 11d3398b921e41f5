/- Contract: impl.ParseCluster. -/
import Derived.Test.YtiinceflafigeaaTxtO
import Derived.Test.YtiinceflafigeaaClB
import Derived.Test.YtiinceflafigeaaIsClu
import Derived.Deep.DeepCutAuto
namespace Go.Proofs.Ytiinceflafigeaa
open Go.RowKit

theorem take_gI {L : List Int} {k : Nat} (h : k < L.length) : L.take (k + 1) = L.take k ++ [gI L k] := by rw [List.take_succ_eq_append_getElem h, gI_lt h]
theorem clB_nil {w : World} {gb base : Nat} (h : Blk w gb 40 #[.slice none 0 0, .slice none 0 0, .slice none 0 0]) : ClB w gb base (.slice none 0 0) (.slice none 0 0) (.slice none 0 0) [] [] [] :=
  ⟨h, ⟨own_nil _ _ _, own_nil _ _ _, own_nil _ _ _, fun _ h _ => by simp [Value.ownBlock] at h, fun _ h _ => by simp [Value.ownBlock] at h, fun _ h _ => by simp [Value.ownBlock] at h⟩, fun g hg => by rcases hg with h | h | h <;> simp [Value.ownBlock] at h⟩
theorem retCC_err {w w' : World} {c : Int} (hb : Below w.heap.size w w') : RetCC w [] [] [] c (.returned (.tuple #[.agg #[.slice none 0 0, .slice none 0 0, .slice none 0 0], .int .i64 c])) w' :=
  ⟨none, 0, none, 0, none, 0, rfl, ⟨own_nil _ _ _, own_nil _ _ _, own_nil _ _ _, fun _ h _ => by simp [Value.ownBlock] at h, fun _ h _ => by simp [Value.ownBlock] at h, fun _ h _ => by simp [Value.ownBlock] at h⟩, hb⟩
set_option maxRecDepth 100000 in
set_option maxHeartbeats 8000000 in
theorem implPC_c (s : ByteArray) (P S W : List Int) (c : Int) (w : World) (hs : s.size ≤ 4194304) (hR : PcR (lB s) P S W c) :
    Calls Try.prog 28 #[.string s] w (RetCC w P S W c) := by
  obtain ⟨i0, hi, hz0, hz1, hz2⟩ := info_parts Try.infoI
  have HR := Lib.hid hR
  clear hR
  have D := (Blk.new w 40 #[.slice none 0 0, .slice none 0 0, .slice none 0 0]).alloc (.cells #[.slice none 0 0, .slice none 0 0, .slice none 0 0] 40)
  have G := Blk.new' (w := w.alloc (.cells #[.slice none 0 0, .slice none 0 0, .slice none 0 0] 40)) (t := 40) (cs := #[.slice none 0 0, .slice none 0 0, .slice none 0 0]) (g := w.heap.size + 1) (by simp)
  have hb0 : Below w.heap.size w ((w.alloc (.cells #[.slice none 0 0, .slice none 0 0, .slice none 0 0] 40)).alloc (.cells #[.slice none 0 0, .slice none 0 0, .slice none 0 0] 40)) := ((Below.refl _ _).alloc (Nat.le_refl _) _).alloc (by simp) _
  have hz0' : w.heap.size + 2 = ((w.alloc (.cells #[.slice none 0 0, .slice none 0 0, .slice none 0 0] 40)).alloc (.cells #[.slice none 0 0, .slice none 0 0, .slice none 0 0] 40)).heap.size := by simp
  go_enter Try.func28, Try.ntmps28
  go_wp2_with fail
  generalize (w.alloc (.cells #[.slice none 0 0, .slice none 0 0, .slice none 0 0] 40)).alloc (.cells #[.slice none 0 0, .slice none 0 0, .slice none 0 0] 40) = w0 at *
  refine (wordsOf_c s 32 _ hs).mono ?_
  rintro e w1 ⟨a, k, ss, rfl, hrd, hsp, hnew, hb⟩
  have D1 := D.stays hb
  have C1 : ClB w1 (w.heap.size + 1) w1.heap.size (.slice none 0 0) (.slice none 0 0) (.slice none 0 0) [] [] [] := clB_nil (G.stays hb)
  have hB1 := below_step hb0 hb
  have hz1' : w.heap.size + 2 ≤ w1.heap.size := by have := hb.size; omega
  have HSP := Lib.hid hsp
  clear D G hb0 hb hsp
  have hls : ss.length ≤ 4194305 := by
    have h1 := congrArg List.length HSP.out
    have h2 := spl_size 32 _ (lB s) (Nat.le_refl _)
    rw [List.length_map] at h1
    rw [lB_len] at h2
    omega
  have hpos : 0 < ss.length := by
    have h1 := congrArg List.length HSP.out
    have h2 := spl_ne 32 (lB s)
    rw [List.length_map] at h1
    cases hq : splitL 32 (lB s) with
    | nil => exact absurd hq h2
    | cons x r => rw [hq] at h1; simp at h1; omega
  obtain ⟨bS, oS, cS, he, hbS, hcS⟩ := hrd.cells hpos
  injection he with e1 _ e3
  subst e1 e3
  have hnb : w.heap.size + 2 ≤ bS := by have := hnew bS rfl; omega
  have HCS := Lib.hid hcS
  have HLEN := Lib.hid (show (splitL 32 (lB s)).length = ss.length by rw [← HSP.out]; simp)
  clear hcS hrd hnew
  go_wp2_with fail
  go_loopw [15] (fun iv wr => ∃ (k : Nat) (a b d : Option Addr) (ca cb cd : Nat), k ≤ ss.length ∧ k ≤ 24 ∧ iv = .int .i64 (k : Int) ∧ Hid (∀ i, i < k → imB (gT (splitL 32 (lB s)) i) = true) ∧ ClB wr (w.heap.size + 1) w1.heap.size (.slice a k ca) (.slice b k cb) (.slice d k cd) ((imPs (lB s)).take k) ((imSs (lB s)).take k) ((imWs (lB s)).take k) ∧ Blk wr w.heap.size 40 #[.slice none 0 0, .slice none 0 0, .slice none 0 0] ∧ Keeps (fun q => q = w.heap.size + 1) w1 wr) (fun iv _ => ss.length - (intOf iv).toNat)
  case atStart => exact ⟨0, none, none, none, 0, 0, 0, Nat.zero_le _, by omega, rfl, Lib.hid (fun i hi => by omega), by simpa using C1, D1, Keeps.refl _ _⟩
  case round =>
    obtain ⟨k, a, b, d, ca, cb, cd, hk, hk24, rfl, HI, hC, hD, hK⟩ := hrel
    obtain ⟨wo, rfl⟩ : ∃ wo : World, wo = wr := ⟨_, rfl⟩
    clear C1 D1
    by_cases hlt : k < ss.length
    · have hki : (k : Int) < (ss.length : Int) := by omega
      have hk0 : (0 : Int) ≤ (k : Int) := by omega
      have dS := HCS.out k hlt
      rw [← hK.cell (p := ⟨bS, oS + k, none⟩) hbS (by show ¬ bS = w.heap.size + 1; omega)] at dS
      obtain ⟨hx, hxs⟩ := parts_at HSP.out hlt
      rw [lB_len] at hxs
      have HX := Lib.hid hx
      clear hx
      generalize gS ss k = x at *
      go_wp2_with fail
      refine (pointOf_c x _ (by omega)).mono ?_
      rintro e w2 ⟨y0, y1, y2, rfl, hy, hd⟩
      rw [HX.out] at hy ⊢
      have hb2 := hd.below wo.heap.size
      have hC2 := hC.below hb2
      have hD2 := hD.stays hb2
      have hK2 := hK.trans (Keeps.of_below hb2)
      have HY := Lib.hid hy
      clear dS hC hD hK hd hb2 hy
      have hLP : ((imPs (lB s)).take k).length = k := by simp [imPs]; have := HLEN.out; omega
      have hLS : ((imSs (lB s)).take k).length = k := by simp [imSs]; have := HLEN.out; omega
      have hLW : ((imWs (lB s)).take k).length = k := by simp [imWs]; have := HLEN.out; omega
      cases hok : imB (gT (splitL 32 (lB s)) k)
      · obtain ⟨rfl, rfl, rfl, rfl⟩ := pim_no HR.out (fun h => by have := h.1 k (by rw [HLEN.out]; exact hlt); rw [hok] at this; cases this)
        have hBw := hB1.trans (hK2.below (B := w.heap.size) hB1.size (fun q e => by omega))
        have f0 := hD2.free 0
        have f1 := hD2.free 1
        have f2 := hD2.free 2
        have e0 := hD2.cell 0
        have e1 := hD2.cell 1
        have e2 := hD2.cell 2
        have q0 := (((hD2.set 0 (.slice none 0 0)).set 1 (.slice none 0 0)).set 2 (.slice none 0 0)).cell 0
        have q1 := (((hD2.set 0 (.slice none 0 0)).set 1 (.slice none 0 0)).set 2 (.slice none 0 0)).cell 1
        have q2 := (((hD2.set 0 (.slice none 0 0)).set 1 (.slice none 0 0)).set 2 (.slice none 0 0)).cell 2
        have hfin := (((hBw.setCell (p := ⟨w.heap.size, 0, none⟩) (Nat.le_refl _) (.slice none 0 0)).setCell (p := ⟨w.heap.size, 1, none⟩) (Nat.le_refl _) (.slice none 0 0)).setCell (p := ⟨w.heap.size, 2, none⟩) (Nat.le_refl _) (.slice none 0 0))
        clear hC2 hK2 HY hok hBw hLP hLS hLW
        go_wp2
        exact bodyPost_ret (v := .tuple #[.agg #[.slice none 0 0, .slice none 0 0, .slice none 0 0], .int .i64 6]) (by simp [results, Try.results28, go_sem, q0, q1, q2]) rfl (retCC_err hfin)
      · by_cases h24 : k = 24
        · obtain ⟨rfl, rfl, rfl, rfl⟩ := pim_no HR.out (fun h => by have := h.2.1; rw [HLEN.out] at this; omega)
          have hBw := hB1.trans (hK2.below (B := w.heap.size) hB1.size (fun q e => by omega))
          have c2 := hC2.blk.cell 2
          have hkb : ((k : Int) == 24) = true := by rw [h24]; rfl
          have f0 := hD2.free 0
          have f1 := hD2.free 1
          have f2 := hD2.free 2
          have e0 := hD2.cell 0
          have e1 := hD2.cell 1
          have e2 := hD2.cell 2
          have q0 := (((hD2.set 0 (.slice none 0 0)).set 1 (.slice none 0 0)).set 2 (.slice none 0 0)).cell 0
          have q1 := (((hD2.set 0 (.slice none 0 0)).set 1 (.slice none 0 0)).set 2 (.slice none 0 0)).cell 1
          have q2 := (((hD2.set 0 (.slice none 0 0)).set 1 (.slice none 0 0)).set 2 (.slice none 0 0)).cell 2
          have hfin := (((hBw.setCell (p := ⟨w.heap.size, 0, none⟩) (Nat.le_refl _) (.slice none 0 0)).setCell (p := ⟨w.heap.size, 1, none⟩) (Nat.le_refl _) (.slice none 0 0)).setCell (p := ⟨w.heap.size, 2, none⟩) (Nat.le_refl _) (.slice none 0 0))
          clear hC2 hK2 HY hok hBw hLP hLS hLW h24
          go_wp2
          exact bodyPost_ret (v := .tuple #[.agg #[.slice none 0 0, .slice none 0 0, .slice none 0 0], .int .i64 6]) (by simp [results, Try.results28, go_sem, q0, q1, q2]) rfl (retCC_err hfin)
        · have hkb : ((k : Int) == 24) = false := by rw [beq_eq_false_iff_ne]; omega
          have hk23 : k + 1 ≤ 24 := by omega
          obtain ⟨h1, h2, h3⟩ := HY.out hok
          have hks : k < (splitL 32 (lB s)).length := by rw [HLEN.out]; exact hlt
          have nP : (imPs (lB s)).take (k + 1) = (imPs (lB s)).take k ++ [y1] := by rw [take_gI (by simpa [imPs] using hks), h2]; unfold imPs; rw [gI_mapT hks]
          have nS : (imSs (lB s)).take (k + 1) = (imSs (lB s)).take k ++ [y2] := by rw [take_gI (by simpa [imSs] using hks), h3]; unfold imSs; rw [gI_mapT hks]
          have nW : (imWs (lB s)).take (k + 1) = (imWs (lB s)).take k ++ [y0] := by rw [take_gI (by simpa [imWs] using hks), h1]; unfold imWs; rw [gI_mapT hks]
          have HI2 : Hid (∀ i, i < k + 1 → imB (gT (splitL 32 (lB s)) i) = true) := Lib.hid (fun i hi => by
            by_cases e : i = k
            · subst e; exact hok
            · exact HI.out i (by omega))
          generalize (imPs (lB s)).take k = PA at *
          generalize (imSs (lB s)).take k = SA at *
          generalize (imWs (lB s)).take k = WA at *
          have NP := Lib.hid nP
          have NS := Lib.hid nS
          have NW := Lib.hid nW
          have HLPA := Lib.hid hLP
          have HLSA := Lib.hid hLS
          have HLWA := Lib.hid hLW
          clear HI HY hok h24 h1 h2 h3 hks nP nS nW hLP hLS hLW
          have c2 := hC2.blk.cell 2
          have l4 := hC2.blk.lt
          have c0 := hC2.blk.cell 2
          have f0 := hC2.blk.free 2
          have hz : w1.heap.size ≤ w2.heap.size := hK2.size
          go_upto_region 9 with (at_builtin; refine wpList_pushL rfl (.tmp 36) (.tmp 38) 24 rfl w1.heap.size 2 i0 Try.underlying24 hi hz0 hz1 hz2 (.slice d k cd) WA y0 rfl hC2.own.c rfl (by rw [HLWA.out]; omega) hz ?_; intro g2 kg2 w3 ho hk2 hl; rw [HLWA.out] at ho ⊢; have hcell := (hk2.cell (p := ⟨w.heap.size + 1, 2, none⟩) l4 (fun e => hC2.ne _ (.inr (.inr e)) rfl)).trans c0; have hfree := (hk2.frozen (p := ⟨w.heap.size + 1, 2, none⟩) l4 (fun e => hC2.ne _ (.inr (.inr e)) rfl)).trans f0)
          have hC3 := hC2.push2 ho hk2 hl
          have hkk := keeps_push (gb := w.heap.size + 1) (base := w1.heap.size) (j := 2) (u := .slice (some ⟨g2, 0, none⟩) (k + 1) kg2) hk2 (fun k e => (hC2.own.c.block k e).1)
          have hK3 := hK2.joinK hkk (fun q hq e => by omega)
          have hD3 := hD2.keeps hkk (by omega)
          clear c2 hC2 hK2 hD2 ho hk2 hl hcell hfree c0 f0 hkk
          generalize w3.setCell ⟨w.heap.size + 1, 2, none⟩ (.slice (some ⟨g2, 0, none⟩) (k + 1) kg2) = w4 at *
          have l4 := hC3.blk.lt
          have c0 := hC3.blk.cell 0
          have f0 := hC3.blk.free 0
          have hz : w1.heap.size ≤ w4.heap.size := hK3.size
          go_upto_region 10 with (at_builtin; refine wpList_pushL rfl (.tmp 42) (.tmp 44) 24 rfl w1.heap.size 2 i0 Try.underlying24 hi hz0 hz1 hz2 (.slice a k ca) PA y1 rfl hC3.own.a rfl (by rw [HLPA.out]; omega) hz ?_; intro g0 kg0 w5 ho hk2 hl; rw [HLPA.out] at ho ⊢; have hcell := (hk2.cell (p := ⟨w.heap.size + 1, 0, none⟩) l4 (fun e => hC3.ne _ (.inl e) rfl)).trans c0; have hfree := (hk2.frozen (p := ⟨w.heap.size + 1, 0, none⟩) l4 (fun e => hC3.ne _ (.inl e) rfl)).trans f0)
          have hC4 := hC3.push0 ho hk2 hl
          have hkk := keeps_push (gb := w.heap.size + 1) (base := w1.heap.size) (j := 0) (u := .slice (some ⟨g0, 0, none⟩) (k + 1) kg0) hk2 (fun k e => (hC3.own.a.block k e).1)
          have hK4 := hK3.joinK hkk (fun q hq e => by omega)
          have hD4 := hD3.keeps hkk (by omega)
          clear hC3 hK3 hD3 ho hk2 hl hcell hfree c0 f0 hkk
          generalize w5.setCell ⟨w.heap.size + 1, 0, none⟩ (.slice (some ⟨g0, 0, none⟩) (k + 1) kg0) = w6 at *
          have l4 := hC4.blk.lt
          have c0 := hC4.blk.cell 1
          have f0 := hC4.blk.free 1
          have hz : w1.heap.size ≤ w6.heap.size := hK4.size
          go_wp2_with (at_builtin; refine wpList_pushL rfl (.tmp 48) (.tmp 50) 24 rfl w1.heap.size 2 i0 Try.underlying24 hi hz0 hz1 hz2 (.slice b k cb) SA y2 rfl hC4.own.b rfl (by rw [HLSA.out]; omega) hz ?_; intro g1 kg1 w7 ho hk2 hl; rw [HLSA.out] at ho ⊢; have hcell := (hk2.cell (p := ⟨w.heap.size + 1, 1, none⟩) l4 (fun e => hC4.ne _ (.inr (.inl e)) rfl)).trans c0; have hfree := (hk2.frozen (p := ⟨w.heap.size + 1, 1, none⟩) l4 (fun e => hC4.ne _ (.inr (.inl e)) rfl)).trans f0)
          have hC5 := hC4.push1 ho hk2 hl
          have hkk := keeps_push (gb := w.heap.size + 1) (base := w1.heap.size) (j := 1) (u := .slice (some ⟨g1, 0, none⟩) (k + 1) kg1) hk2 (fun k e => (hC4.own.b.block k e).1)
          have hK5 := hK4.joinK hkk (fun q hq e => by omega)
          have hD5 := hD4.keeps hkk (by omega)
          clear hC4 hK4 hD4 ho hk2 hl hcell hfree c0 f0 hkk
          generalize w7.setCell ⟨w.heap.size + 1, 1, none⟩ (.slice (some ⟨g1, 0, none⟩) (k + 1) kg1) = w8 at *
          rw [← NP.out, ← NS.out, ← NW.out] at hC5
          go_roundw
          case rel => exact ⟨k + 1, _, _, _, _, _, _, by omega, by omega, by go_num, HI2, hC5, hD5, hK5⟩
          case measure => simp [intOf]; omega
    · have hke : k = ss.length := by omega
      have hki : ¬ (k : Int) < (ss.length : Int) := by omega
      have eP : (imPs (lB s)).take k = imPs (lB s) := List.take_of_length_le (by simp [imPs]; have := HLEN.out; omega)
      have eS : (imSs (lB s)).take k = imSs (lB s) := List.take_of_length_le (by simp [imSs]; have := HLEN.out; omega)
      have eW : (imWs (lB s)).take k = imWs (lB s) := List.take_of_length_le (by simp [imWs]; have := HLEN.out; omega)
      rw [eP, eS, eW] at hC
      have lP : (imPs (lB s)).length = k := by simp [imPs]; have := HLEN.out; omega
      have lS : (imSs (lB s)).length = k := by simp [imSs]; have := HLEN.out; omega
      have lW : (imWs (lB s)).length = k := by simp [imWs]; have := HLEN.out; omega
      have HA : Hid (allIm (lB s)) := Lib.hid (fun i hi => HI.out i (by have := HLEN.out; omega))
      have H24 : Hid ((splitL 32 (lB s)).length ≤ 24) := Lib.hid (by rw [HLEN.out]; omega)
      have LP := Lib.hid lP
      have LS := Lib.hid lS
      have LW := Lib.hid lW
      have hBw := hB1.trans (hK.below (B := w.heap.size) hB1.size (fun q e => by omega))
      have c0 := hC.blk.cell 0
      have c1 := hC.blk.cell 1
      have c2 := hC.blk.cell 2
      have hzz : w1.heap.size ≤ wo.heap.size := hK.size
      clear eP eS eW lP lS lW HI hke hK
      go_wp2_with fail
      refine (implIsCluster_c _ _ _ (imPs (lB s)) (imSs (lB s)) (imWs (lB s)) _ hC.own.a.rd hC.own.b.rd hC.own.c.rd).mono ?_
      rintro e w2 ⟨rfl, hb2⟩
      have hC2 := hC.below hb2
      have hD2 := hD.stays hb2
      have hBw := below_step hBw hb2
      have hz2 := hb2.size
      clear c0 c1 c2 hC hD hb2
      cases hcl : cluB (imPs (lB s)) (imSs (lB s)) (imWs (lB s))
      · obtain ⟨rfl, rfl, rfl, rfl⟩ := pim_no HR.out (fun h => by have := h.2.2; rw [hcl] at this; cases this)
        have f0 := hD2.free 0
        have f1 := hD2.free 1
        have f2 := hD2.free 2
        have e0 := hD2.cell 0
        have e1 := hD2.cell 1
        have e2 := hD2.cell 2
        have q0 := (((hD2.set 0 (.slice none 0 0)).set 1 (.slice none 0 0)).set 2 (.slice none 0 0)).cell 0
        have q1 := (((hD2.set 0 (.slice none 0 0)).set 1 (.slice none 0 0)).set 2 (.slice none 0 0)).cell 1
        have q2 := (((hD2.set 0 (.slice none 0 0)).set 1 (.slice none 0 0)).set 2 (.slice none 0 0)).cell 2
        have hfin := (((hBw.setCell (p := ⟨w.heap.size, 0, none⟩) (Nat.le_refl _) (.slice none 0 0)).setCell (p := ⟨w.heap.size, 1, none⟩) (Nat.le_refl _) (.slice none 0 0)).setCell (p := ⟨w.heap.size, 2, none⟩) (Nat.le_refl _) (.slice none 0 0))
        clear hC2 hBw hcl
        go_wp2
        exact bodyPost_ret (v := .tuple #[.agg #[.slice none 0 0, .slice none 0 0, .slice none 0 0], .int .i64 6]) (by simp [results, Try.results28, go_sem, q0, q1, q2]) rfl (retCC_err hfin)
      · obtain ⟨rfl, rfl, rfl, rfl⟩ := pim_yes HR.out HA.out hcl
        generalize imPs (lB s) = PA at *
        generalize imSs (lB s) = SA at *
        generalize imWs (lB s) = WA at *
        have c0 := hC2.blk.cell 0
        have c1 := hC2.blk.cell 1
        have c2 := hC2.blk.cell 2
        have f0 := hD2.free 0
        have f1 := hD2.free 1
        have f2 := hD2.free 2
        have e0 := hD2.cell 0
        have e1 := hD2.cell 1
        have e2 := hD2.cell 2
        have F := ((hD2.set 0 (.slice a k ca)).set 1 (.slice b k cb)).set 2 (.slice d k cd)
        have q0 := F.cell 0
        have q1 := F.cell 1
        have q2 := F.cell 2
        have hk5 : Keeps (fun q => q = w.heap.size) w2 (((w2.setCell ⟨w.heap.size, 0, none⟩ (.slice a k ca)).setCell ⟨w.heap.size, 1, none⟩ (.slice b k cb)).setCell ⟨w.heap.size, 2, none⟩ (.slice d k cd)) := (((Keeps.refl (fun q => q = w.heap.size) w2).setCell (p := ⟨w.heap.size, 0, none⟩) rfl _).setCell (p := ⟨w.heap.size, 1, none⟩) rfl _).setCell (p := ⟨w.heap.size, 2, none⟩) rfl _
        have ho5 := (hC2.own.keeps hk5 (fun g hg e => by have := (hC2.own.block g hg).1; omega)).base_le (base' := w.heap.size) (by omega)
        have hfin : Below w.heap.size w _ := hBw.trans (hk5.below hBw.size (fun q e => by omega))
        have HF : Hid (RetCC w PA SA WA 0 (.returned (.tuple #[.agg #[.slice a k ca, .slice b k cb, .slice d k cd], .int .i64 0])) (((w2.setCell ⟨w.heap.size, 0, none⟩ (.slice a k ca)).setCell ⟨w.heap.size, 1, none⟩ (.slice b k cb)).setCell ⟨w.heap.size, 2, none⟩ (.slice d k cd))) := Lib.hid ⟨a, ca, b, cb, d, cd, by rw [LP.out, LS.out, LW.out], by rw [LP.out, LS.out, LW.out]; exact ho5, hfin⟩
        clear hC2 hBw hcl hk5 ho5 hfin F
        go_wp2
        exact bodyPost_ret (v := .tuple #[.agg #[.slice a k ca, .slice b k cb, .slice d k cd], .int .i64 0]) (by simp [results, Try.results28, go_sem, q0, q1, q2]) rfl HF.out
end Go.Proofs.Ytiinceflafigeaa
