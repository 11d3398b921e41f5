/- Contract: spec.ClusterOfBranch. -/
import Derived.Test.YtibfigmnoamheaaCobS
namespace Go.Proofs.Ytibfigmnoamheaa
open Go.RowKit

theorem retCC_nilB {w w' : World} {c : Int} (hb : Below w.heap.size w w') : RetCC w [] [] [] c (.returned (.tuple #[.agg #[.slice none 0 0, .slice none 0 0, .slice none 0 0], .int .i64 c])) w' :=
  ⟨none, 0, none, 0, none, 0, rfl, ⟨own_nil _ _ _, own_nil _ _ _, own_nil _ _ _, fun g h => by simp [Value.ownBlock] at h, fun g h => by simp [Value.ownBlock] at h, fun g h => by simp [Value.ownBlock] at h⟩, hb⟩
set_option maxRecDepth 100000 in
set_option maxHeartbeats 4000000 in
theorem specCob_1 (v : Value) (T : List Int) (k : Int) (w : World) (h : Rd w v T) (hbr : braB T = false) :
    Calls Try.prog 38 #[.agg #[v], .int .i64 k] w (RetCC w [] [] [] 1) := by
  obtain ⟨a, cp, rfl⟩ := h.len0
  have hx := (Boxed.start w 26 #[.slice a T.length cp]).alloc (.cells #[.slice none 0 0, .slice none 0 0, .slice none 0 0] 40)
  have D := Blk.new' (w := w.alloc (.cells #[.slice a T.length cp] 26)) (t := 40) (cs := #[.slice none 0 0, .slice none 0 0, .slice none 0 0]) (g := w.heap.size + 1) (by simp)
  have c0 := hx.cell 0
  have HB := Lib.hid hbr
  clear hbr
  go_enter Try.func38, Try.ntmps38
  go_wp2_with fail
  refine (l03Is_c _ T _ (hx.rd h)).mono ?_
  rintro e w1 ⟨rfl, hb⟩
  rw [HB.out]
  have D1 := D.stays hb
  have f0 := D1.free 0
  have f1 := D1.free 1
  have f2 := D1.free 2
  have e0 := D1.cell 0
  have e1 := D1.cell 1
  have e2 := D1.cell 2
  obtain ⟨q0, q1, q2, hfr⟩ := nil3_cells D1 (hx.trans hb).below (Nat.le_succ _)
  clear c0
  go_wp2
  exact bodyPost_ret (v := .tuple #[.agg #[.slice none 0 0, .slice none 0 0, .slice none 0 0], .int .i64 1]) (by simp [results, Try.results38, go_sem, q0, q1, q2]) rfl (retCC_nilB hfr)

set_option maxRecDepth 100000 in
set_option maxHeartbeats 4000000 in
theorem specCob_2 (v : Value) (T : List Int) (k : Int) (w : World) (h : Rd w v T) (hbr : braB T = true) (hin : inB k 1 24 = false) :
    Calls Try.prog 38 #[.agg #[v], .int .i64 k] w (RetCC w [] [] [] 2) := by
  obtain ⟨a, cp, rfl⟩ := h.len0
  have hx := (Boxed.start w 26 #[.slice a T.length cp]).alloc (.cells #[.slice none 0 0, .slice none 0 0, .slice none 0 0] 40)
  have D := Blk.new' (w := w.alloc (.cells #[.slice a T.length cp] 26)) (t := 40) (cs := #[.slice none 0 0, .slice none 0 0, .slice none 0 0]) (g := w.heap.size + 1) (by simp)
  have c0 := hx.cell 0
  have HB := Lib.hid hbr
  have HI := Lib.hid hin
  clear hbr hin
  go_enter Try.func38, Try.ntmps38
  go_wp2_with fail
  refine (l03Is_c _ T _ (hx.rd h)).mono ?_
  rintro e w1 ⟨rfl, hb⟩
  rw [HB.out]
  go_wp2_with fail
  refine (l01In_c _ _ _ _).mono ?_
  rintro e w2 ⟨rfl, rfl⟩
  rw [HI.out]
  have D1 := D.stays hb
  have f0 := D1.free 0
  have f1 := D1.free 1
  have f2 := D1.free 2
  have e0 := D1.cell 0
  have e1 := D1.cell 1
  have e2 := D1.cell 2
  obtain ⟨q0, q1, q2, hfr⟩ := nil3_cells D1 (hx.trans hb).below (Nat.le_succ _)
  clear c0
  go_wp2
  exact bodyPost_ret (v := .tuple #[.agg #[.slice none 0 0, .slice none 0 0, .slice none 0 0], .int .i64 2]) (by simp [results, Try.results38, go_sem, q0, q1, q2]) rfl (retCC_nilB hfr)

set_option maxRecDepth 100000 in
set_option maxHeartbeats 8000000 in
theorem specCob_3 (v : Value) (T : List Int) (n : Nat) (w : World) (h : Rd w v T) (hok : BraOk T) (hn1 : 1 ≤ n) (hn2 : n ≤ 24) :
    Calls Try.prog 38 #[.agg #[v], .int .i64 (n : Int)] w (RetCC w (parL n) (secM (seqL T n)) (seqL T n) 0) := by
  obtain ⟨a, cp, rfl⟩ := h.len0
  have hx := (Boxed.start w 26 #[.slice a T.length cp]).alloc (.cells #[.slice none 0 0, .slice none 0 0, .slice none 0 0] 40)
  have D := Blk.new' (w := w.alloc (.cells #[.slice a T.length cp] 26)) (t := 40) (cs := #[.slice none 0 0, .slice none 0 0, .slice none 0 0]) (g := w.heap.size + 1) (by simp)
  have c0 := hx.cell 0
  have HB := Lib.hid (braB_iff.2 hok)
  have HI : Hid (inB (n : Int) 1 24 = true) := Lib.hid (inB_iff.2 (by omega))
  have HML : Hid ((seqL T n).length = n) := Lib.hid (seqL_len T n)
  go_enter Try.func38, Try.ntmps38
  go_wp2_with fail
  refine (l03Is_c _ T _ (hx.rd h)).mono ?_
  rintro e w1 ⟨rfl, hb⟩
  rw [HB.out]
  go_wp2_with fail
  refine (l01In_c _ _ _ _).mono ?_
  rintro e w1' ⟨rfl, rfl⟩
  rw [HI.out]
  have D1 := D.stays hb
  have hx1 := hx.trans hb
  clear c0
  have c0 := hx1.cell 0
  go_wp2_with fail
  refine (l07Branch_c _ T n _ (hx1.rd h) hok hn1 hn2).mono ?_
  rintro e w2 ⟨aA, cA, aB, cB, aM, kM, rfl, o3, hb2⟩
  have D2 := D1.stays hb2
  have fr2 := (hx1.trans hb2).below
  have hDl := D1.lt
  have hs2 := hb2.size
  have hlp : (parL n).length = n := parL_len n
  have hls : (secM (seqL T n)).length = n := by rw [secM_len, HML.out]
  rw [hlp, hls, HML.out] at o3 ⊢
  have F := ((D2.set 0 (.slice aA n cA)).set 1 (.slice aB n cB)).set 2 (.slice aM n kM)
  have q0 := F.cell 0
  have q1 := F.cell 1
  have q2 := F.cell 2
  have f0 := D2.free 0
  have f1 := D2.free 1
  have f2 := D2.free 2
  have e0 := D2.cell 0
  have e1 := D2.cell 1
  have e2 := D2.cell 2
  have hK : Keeps (fun q => q = w.heap.size + 1) w2 (((w2.setCell ⟨w.heap.size + 1, 0, none⟩ (.slice aA n cA)).setCell ⟨w.heap.size + 1, 1, none⟩ (.slice aB n cB)).setCell ⟨w.heap.size + 1, 2, none⟩ (.slice aM n kM)) := ((((Keeps.refl (fun q => q = w.heap.size + 1) w2).setCell (p := ⟨w.heap.size + 1, 0, none⟩) rfl _).setCell (p := ⟨w.heap.size + 1, 1, none⟩) rfl _).setCell (p := ⟨w.heap.size + 1, 2, none⟩) rfl _)
  have h4 := o3.keeps hK (fun g hg e9 => by have e8 : g = w.heap.size + 1 := e9; have h8 := (o3.block g hg).1; omega)
  have hfin : RetCC w (parL n) (secM (seqL T n)) (seqL T n) 0 (.returned (.tuple #[.agg #[.slice aA n cA, .slice aB n cB, .slice aM n kM], .int .i64 0])) (((w2.setCell ⟨w.heap.size + 1, 0, none⟩ (.slice aA n cA)).setCell ⟨w.heap.size + 1, 1, none⟩ (.slice aB n cB)).setCell ⟨w.heap.size + 1, 2, none⟩ (.slice aM n kM)) := by
    refine ⟨aA, cA, aB, cB, aM, kM, by rw [hlp, hls, HML.out], ?_, fr2.trans (hK.below (B := w.heap.size) (by omega) (fun q hq => by omega))⟩
    rw [hlp, hls, HML.out]
    exact h4.base_le (by omega)
  clear hlp hls o3 h4 hK F c0
  go_wp2
  exact bodyPost_ret (v := .tuple #[.agg #[.slice aA n cA, .slice aB n cB, .slice aM n kM], .int .i64 0]) (by simp [results, Try.results38, go_sem, q0, q1, q2]) rfl hfin
theorem specCob_c (v : Value) (T : List Int) (k : Int) (w : World) (h : Rd w v T) :
    Calls Try.prog 38 #[.agg #[v], .int .i64 k] w (RetCC w (okL (cobB T k) (parL k.toNat)) (okL (cobB T k) (secM (seqL T k.toNat))) (okL (cobB T k) (seqL T k.toNat)) (cobC T k)) := by
  cases hb : braB T
  · rw [(cob_bra hb).1, (cob_bra hb).2]; exact specCob_1 v T k w h hb
  · cases hi : inB k 1 24
    · rw [(cob_num hb hi).1, (cob_num hb hi).2]; exact specCob_2 v T k w h hb hi
    · rw [(cob_ok hb hi).1, (cob_ok hb hi).2]
      have h1 := inB_iff.1 hi
      obtain ⟨n, hn⟩ := Int.eq_ofNat_of_zero_le (show 0 ≤ k by omega)
      subst hn
      rw [Int.toNat_natCast]
      exact specCob_3 v T n w h (braB_iff.1 hb) (by omega) (by omega)
theorem cob_len (T : List Int) (k : Int) (L : List Int) (hL : L.length = k.toNat) : (okL (cobB T k) L).length ≤ 1048576 := okL_len fun h => by
  have h1 : inB k 1 24 = true := by unfold cobB at h; simp at h; exact h.2
  have := inB_iff.1 h1
  omega
end Go.Proofs.Ytibfigmnoamheaa
