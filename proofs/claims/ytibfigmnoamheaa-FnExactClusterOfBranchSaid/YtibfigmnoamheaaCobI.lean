/- Contract: impl.ClusterOfBranch. -/
import Derived.Test.YtibfigmnoamheaaCob
import Derived.Test.YtibfigmnoamheaaPtsI
namespace Go.Proofs.Ytibfigmnoamheaa
open Go.RowKit

theorem parL_succ (k : Nat) : parL (k + 1) = parL k ++ [(k : Int) - 1] := by simp [parL, List.range_succ]
/-- The first k seconds. -/
def seT (M : List Int) (k : Nat) : List Int := (List.range k).map (sI M)
@[simp] theorem seT_len (M : List Int) (k : Nat) : (seT M k).length = k := by simp [seT]
theorem seT_succ (M : List Int) (k : Nat) : seT M (k + 1) = seT M k ++ [sI M k] := by simp [seT, List.range_succ]
theorem seT_all (M : List Int) : seT M M.length = secM M := rfl
theorem row_any {M : List Int} {k : Nat} (hk : k < M.length) : (0 ≤ sI M k → proxOf (parL M.length) (secM M) k = [sI M k, (k : Int) - 1]) ∧ (¬ 0 ≤ sI M k → sI M k = -1 ∧ (proxOf (parL M.length) (secM M) k).length ≤ 1) := by
  cases k with
  | zero =>
    have h : sI M 0 = -1 := rfl
    refine ⟨fun h0 => by omega, fun _ => ⟨h, by unfold proxOf secL; rw [gI_secM hk, gI_parL hk, h]; simp⟩⟩
  | succ j =>
    have hb := sI_bd M (j + 1)
    refine ⟨fun h0 => ?_, fun h0 => ⟨by omega, by rw [(row_one hk h0).1]; simp⟩⟩
    rw [(row_two hk h0).1]
    congr 2; omega
/-- Is there a cluster of the first k points? -/
def cobB (T : List Int) (k : Int) : Bool := braB T && inB k 1 24
def cobC (T : List Int) (k : Int) : Int := if braB T then (if inB k 1 24 then 0 else 2) else 1
theorem cob_bra {T : List Int} {k : Int} (h : braB T = false) : cobB T k = false ∧ cobC T k = 1 := by simp [cobB, cobC, h]
theorem cob_num {T : List Int} {k : Int} (h : braB T = true) (h' : inB k 1 24 = false) : cobB T k = false ∧ cobC T k = 2 := by simp [cobB, cobC, h, h']
theorem cob_ok {T : List Int} {k : Int} (h : braB T = true) (h' : inB k 1 24 = true) : cobB T k = true ∧ cobC T k = 0 := by simp [cobB, cobC, h, h']
theorem nil3_cells {w W : World} {g : Nat} (h : Blk W g 40 #[.slice none 0 0, .slice none 0 0, .slice none 0 0]) (hb : Below w.heap.size w W) (hg : w.heap.size ≤ g) :
    let W' := ((W.setCell ⟨g, 0, none⟩ (.slice none 0 0)).setCell ⟨g, 1, none⟩ (.slice none 0 0)).setCell ⟨g, 2, none⟩ (.slice none 0 0)
    W'.cell? ⟨g, 0, none⟩ = some (.slice none 0 0) ∧ W'.cell? ⟨g, 1, none⟩ = some (.slice none 0 0) ∧ W'.cell? ⟨g, 2, none⟩ = some (.slice none 0 0) ∧ Below w.heap.size w W' :=
  ⟨(((h.set 0 (.slice none 0 0)).set 1 (.slice none 0 0)).set 2 (.slice none 0 0)).cell 0, (((h.set 0 (.slice none 0 0)).set 1 (.slice none 0 0)).set 2 (.slice none 0 0)).cell 1, (((h.set 0 (.slice none 0 0)).set 1 (.slice none 0 0)).set 2 (.slice none 0 0)).cell 2,
    ((hb.setCell (p := ⟨g, 0, none⟩) hg _).setCell (p := ⟨g, 1, none⟩) hg _).setCell (p := ⟨g, 2, none⟩) hg _⟩

set_option maxRecDepth 100000 in
set_option maxHeartbeats 4000000 in
theorem implCob_1 (v : Value) (T : List Int) (k : Int) (w : World) (h : Rd w v T) (hbr : braB T = false) :
    Calls Try.prog 40 #[.agg #[v], .int .i64 k] w (RetCQ w [] [] [] 1) := by
  obtain ⟨a, cp, rfl⟩ := h.len0
  have hx := (Boxed.start w 26 #[.slice a T.length cp]).alloc (.cells #[.slice none 0 0, .slice none 0 0, .slice none 0 0] 40)
  have D := Blk.new' (w := w.alloc (.cells #[.slice a T.length cp] 26)) (t := 40) (cs := #[.slice none 0 0, .slice none 0 0, .slice none 0 0]) (g := w.heap.size + 1) (by simp)
  have c0 := hx.cell 0
  have HB := Lib.hid hbr
  clear hbr
  go_enter Try.func40, Try.ntmps40
  go_wp2_with fail
  refine (implIsBranch_c _ T _ (hx.rd h)).mono ?_
  rintro e w1 ⟨rfl, hb⟩
  rw [HB.out]
  have D1 := D.stays hb
  have f0 := D1.free 0
  have f1 := D1.free 1
  have f2 := D1.free 2
  have e0 := D1.cell 0
  have e1 := D1.cell 1
  have e2 := D1.cell 2
  obtain ⟨q0, q1, q2, hfr⟩ := nil3_cells D1 (hx.trans hb).below (Nat.le_succ _)
  clear c0
  go_wp2
  exact bodyPost_ret (v := .tuple #[.agg #[.slice none 0 0, .slice none 0 0, .slice none 0 0], .int .i64 1]) (by simp [results, Try.results40, go_sem, q0, q1, q2]) rfl (retCQ_nil hfr)

set_option maxRecDepth 100000 in
set_option maxHeartbeats 4000000 in
theorem implCob_2 (v : Value) (T : List Int) (k : Int) (w : World) (h : Rd w v T) (hbr : braB T = true) (hin : inB k 1 24 = false) :
    Calls Try.prog 40 #[.agg #[v], .int .i64 k] w (RetCQ w [] [] [] 2) := by
  obtain ⟨a, cp, rfl⟩ := h.len0
  have hx := (Boxed.start w 26 #[.slice a T.length cp]).alloc (.cells #[.slice none 0 0, .slice none 0 0, .slice none 0 0] 40)
  have D := Blk.new' (w := w.alloc (.cells #[.slice a T.length cp] 26)) (t := 40) (cs := #[.slice none 0 0, .slice none 0 0, .slice none 0 0]) (g := w.heap.size + 1) (by simp)
  have c0 := hx.cell 0
  have HB := Lib.hid hbr
  have HI := Lib.hid hin
  clear hbr hin
  go_enter Try.func40, Try.ntmps40
  go_wp2_with fail
  refine (implIsBranch_c _ T _ (hx.rd h)).mono ?_
  rintro e w1 ⟨rfl, hb⟩
  rw [HB.out]
  go_wp2_with fail
  refine (inRange_c _ _ _ _).mono ?_
  rintro e w2 ⟨rfl, rfl⟩
  rw [HI.out]
  have D1 := D.stays hb
  have f0 := D1.free 0
  have f1 := D1.free 1
  have f2 := D1.free 2
  have e0 := D1.cell 0
  have e1 := D1.cell 1
  have e2 := D1.cell 2
  obtain ⟨q0, q1, q2, hfr⟩ := nil3_cells D1 (hx.trans hb).below (Nat.le_succ _)
  clear c0
  go_wp2
  exact bodyPost_ret (v := .tuple #[.agg #[.slice none 0 0, .slice none 0 0, .slice none 0 0], .int .i64 2]) (by simp [results, Try.results40, go_sem, q0, q1, q2]) rfl (retCQ_nil hfr)

set_option maxRecDepth 100000 in
set_option maxHeartbeats 8000000 in
theorem implCob_3 (v : Value) (T : List Int) (n : Nat) (w : World) (h : Rd w v T) (hok : BraOk T) (hn1 : 1 ≤ n) (hn2 : n ≤ 24) :
    Calls Try.prog 40 #[.agg #[v], .int .i64 (n : Int)] w (RetCQ w (parL n) (secM (seqL T n)) (seqL T n) 0) := by
  obtain ⟨i0, hi, hz0, hz1, hz2⟩ := info_parts Try.infoI
  obtain ⟨a, cp, rfl⟩ := h.len0
  have hx := (Boxed.start w 26 #[.slice a T.length cp]).alloc (.cells #[.slice none 0 0, .slice none 0 0, .slice none 0 0] 40)
  have D := Blk.new' (w := w.alloc (.cells #[.slice a T.length cp] 26)) (t := 40) (cs := #[.slice none 0 0, .slice none 0 0, .slice none 0 0]) (g := w.heap.size + 1) (by simp)
  have c0 := hx.cell 0
  have HB := Lib.hid (braB_iff.2 hok)
  have HI : Hid (inB (n : Int) 1 24 = true) := Lib.hid (inB_iff.2 (by omega))
  have HEU := Lib.hid (eu_seq hok n)
  have HML : Hid ((seqL T n).length = n) := Lib.hid (seqL_len T n)
  go_enter Try.func40, Try.ntmps40
  go_wp2_with fail
  refine (implIsBranch_c _ T _ (hx.rd h)).mono ?_
  rintro e w1 ⟨rfl, hb⟩
  rw [HB.out]
  go_wp2_with fail
  refine (inRange_c _ _ _ _).mono ?_
  rintro e w1' ⟨rfl, rfl⟩
  rw [HI.out]
  have D1 := D.stays hb
  have hx1 := hx.trans hb
  clear c0
  have c0 := hx1.cell 0
  go_wp2_with fail
  refine (firstOf_c _ T n _ (hx1.rd h) hok hn1 (by omega)).mono ?_
  rintro e w2 ⟨gq, rfl, hg1, hg2, hcq, hfq, hb2⟩
  have D2 := D1.stays hb2
  have hx2 := hx1.trans hb2
  have hsz1 := D1.lt
  have hz2' := hb2.size
  have OQ : OwnQ w2 (w.heap.size + 1) (.slice (some ⟨gq, 0, none⟩) n n) (seqL T n) := .inr ⟨gq, by rw [HML.out], by omega, hg2, by rw [HML.out]; omega, fun i hi => hcq i (by rw [HML.out] at hi; exact hi), hfq⟩
  have hgn : gq ≠ w.heap.size + 1 := by omega
  clear c0 hcq hfq D D1 hx hx1 hb hb2
  generalize seqL T n = M at *
  obtain ⟨W3, hW3⟩ : ∃ W3 : World, W3 = ((w2.alloc (.cells #[] 2)).alloc (.cells #[] 2)).alloc (.cells #[.slice (some ⟨w2.heap.size, 0, none⟩) 0 0, .slice (some ⟨w2.heap.size + 1, 0, none⟩) 0 0, .slice (some ⟨gq, 0, none⟩) n n] 40) := ⟨_, rfl⟩
  have hal : Below w2.heap.size w2 W3 := by rw [hW3]; exact (((Below.refl _ _).alloc (Nat.le_refl _) _).alloc (by simp) _).alloc (by simp; omega) _
  have hs3 : W3.heap.size = w2.heap.size + 3 := by rw [hW3]; simp
  have B3 : Blk W3 (w2.heap.size + 2) 40 #[.slice (some ⟨w2.heap.size, 0, none⟩) 0 0, .slice (some ⟨w2.heap.size + 1, 0, none⟩) 0 0, .slice (some ⟨gq, 0, none⟩) n n] := by rw [hW3]; exact Blk.new' (by simp)
  have A3 : OwnI W3 (w.heap.size + 1) (.slice (some ⟨w2.heap.size, 0, none⟩) 0 0) (parL 0) := by
    rw [hW3]
    exact (((own_empty w2 (w.heap.size + 1) (by omega)).below ((Below.refl _ _).alloc (Nat.le_refl _) _) (Nat.le_refl _)).below ((Below.refl _ _).alloc (Nat.le_refl _) _) (Nat.le_refl _))
  have E3 : OwnI W3 (w.heap.size + 1) (.slice (some ⟨w2.heap.size + 1, 0, none⟩) 0 0) (seT M 0) := by
    rw [hW3]
    have h1 := own_empty (w2.alloc (.cells #[] 2)) (w.heap.size + 1) (by simp; omega)
    rw [show (w2.alloc (.cells #[] 2)).heap.size = w2.heap.size + 1 by simp] at h1
    exact h1.below ((Below.refl _ _).alloc (Nat.le_refl _) _) (Nat.le_refl _)
  have HW := Lib.hid hW3
  have hrdM := (OQ.below hal (Nat.le_refl _)).rd
  have HRM := Lib.hid hrdM
  clear hW3 hrdM
  go_wp2_with fail
  rw [← HW.out]
  have hcall := proximates_c (.slice (some ⟨gq, 0, none⟩) n n) M W3 HRM.out HEU.out (by rw [HML.out]; omega) (by rw [HML.out]; omega)
  rw [HML.out] at hcall
  have HCA := Lib.hid hcall
  clear hcall
  refine HCA.out.mono ?_
  rintro e w4 ⟨gr, V, rfl, hrow, hb4⟩
  have B4 := B3.stays hb4
  have D4 := (D2.stays hal).stays hb4
  have A4 := A3.below hb4 (Nat.le_refl _)
  have E4 := E3.below hb4 (Nat.le_refl _)
  have Q4 := (OQ.below hal (Nat.le_refl _)).below hb4 (Nat.le_refl _)
  have fr4 := below_step (below_step hx2.below hal) hb4
  have hs4 := hb4.size
  have hgr := hrow.lo
  have hgr2 := hrow.lt
  have HROW := Lib.hid hrow
  clear B3 D2 A3 E3 OQ hal hb4 hrow hx2
  go_wp2_with fail
  --LOOP
  go_loopw [8, 9, 10, 29] (fun _ _ _ iv wr => ∃ k gA cA gB cB : Nat, k ≤ n ∧ iv = .int .i64 (k : Int) ∧ Blk wr (w2.heap.size + 2) 40 #[.slice (some ⟨gA, 0, none⟩) k cA, .slice (some ⟨gB, 0, none⟩) k cB, .slice (some ⟨gq, 0, none⟩) n n] ∧ OwnI wr (w.heap.size + 1) (.slice (some ⟨gA, 0, none⟩) k cA) (parL k) ∧ OwnI wr (w.heap.size + 1) (.slice (some ⟨gB, 0, none⟩) k cB) (seT M k) ∧ ((w2.heap.size ≤ gA ∧ gA < w2.heap.size + 2) ∨ w4.heap.size ≤ gA) ∧ ((w2.heap.size ≤ gB ∧ gB < w2.heap.size + 2) ∨ w4.heap.size ≤ gB) ∧ gA ≠ gB ∧ Keeps (fun q => w2.heap.size ≤ q ∧ q < W3.heap.size) w4 wr) (fun _ _ _ iv _ => n - (intOf iv).toNat)
  case atStart => exact ⟨0, w2.heap.size, 0, w2.heap.size + 1, 0, Nat.zero_le _, rfl, B4, A4, E4, by omega, by omega, by omega, Keeps.refl _ _⟩
  case round =>
    obtain ⟨k, gA, cA, gB, cB, hk, rfl, BB, OA, OB, hgA, hgB, hgAB, hkp⟩ := hrel
    clear B4 A4 E4
    obtain ⟨wo, rfl⟩ : ∃ wo : World, wo = wr := ⟨_, rfl⟩
    have hskp := hkp.size
    by_cases hlt : k < n
    · have dB0 := BB.cell 0
      have dB1 := BB.cell 1
      have fB0 := BB.free 0
      have fB1 := BB.free 1
      have hlB := BB.lt
      have hsz : w.heap.size + 1 ≤ wo.heap.size := by omega
      have HPS := Lib.hid (parL_succ k)
      have HSS := Lib.hid (seT_succ M k)
      have hcV := HROW.out.cell k hlt
      have hrV := HROW.out.row k hlt
      have hra := row_any (M := M) (k := k) (by rw [HML.out]; exact hlt)
      rw [HML.out] at hra
      have hsb := sI_bd M k
      have dV : wo.cell? ⟨gr, k, none⟩ = some (V k) := (hkp.cell (p := ⟨gr, k, none⟩) hgr2 (by show ¬ (w2.heap.size ≤ gr ∧ gr < W3.heap.size); omega)).trans hcV
      have hki : (k : Int) < (n : Int) := by omega
      have wk : IntKind.i64.wrap ((k : Int) - 1) = (k : Int) - 1 := IntWalk.i64_in _ (by omega)
      by_cases hs : 0 ≤ sI M k
      · have hr2 := hra.1 hs
        rw [hr2] at hrV
        obtain ⟨bu, cu, hVe, hbu1, hbu2, _, _⟩ := Own.pos hrV (by simp)
        rw [hVe] at hrV dV
        have du : w4.cell? ⟨bu, 0, none⟩ = some (.int .i64 (sI M k)) := Own.cell hrV 0 (by simp)
        have dU : wo.cell? ⟨bu, 0, none⟩ = some (.int .i64 (sI M k)) := (hkp.cell (p := ⟨bu, 0, none⟩) hbu2 (by show ¬ (w2.heap.size ≤ bu ∧ bu < W3.heap.size); omega)).trans du
        have hl2 : [sI M k, (k : Int) - 1].length = 2 := rfl
        rw [hl2] at dV
        clear hcV hrV hra hr2 hVe du hl2
        generalize sI M k = s at *
        go_upto_region 14 with (at_builtin; refine wpList_pushL rfl (.tmp 41) (.tmp 44) 24 rfl (w.heap.size + 1) 2 i0 Try.underlying24 hi hz0 hz1 hz2 (.slice (some ⟨gA, 0, none⟩) k cA) (parL k) ((k : Int) - 1) rfl OA rfl (by simp; omega) hsz ?_; intro g5 c5 w5 hown5 hkp5 hlies5; have d5 : w5.cell? ⟨w2.heap.size + 2, 0, none⟩ = some (.slice (some ⟨gA, 0, none⟩) k cA) := (hkp5.cell (p := ⟨w2.heap.size + 2, 0, none⟩) hlB (by simp [Value.ownBlock]; omega)).trans dB0; have f5 : w5.frozen? ⟨w2.heap.size + 2, 0, none⟩ = false := (hkp5.frozen (p := ⟨w2.heap.size + 2, 0, none⟩) hlB (by simp [Value.ownBlock]; omega)).trans fB0)
        rw [parL_len, ← HPS.out] at hown5
        have hk5 : Keeps (fun q => q = gA) wo w5 := hkp5.mono (fun q hq => by simp [Value.ownBlock] at hq; exact hq.symm)
        have hl5 : gA = g5 ∨ wo.heap.size ≤ g5 := hlies5.imp (fun h => by simpa [Value.ownBlock] using h) id
        have B6 := (BB.keeps hk5 (by omega)).set 0 (.slice (some ⟨g5, 0, none⟩) (k + 1) c5)
        have OA6 := hown5.other (g := w2.heap.size + 2) (fun q hq => by simp [Value.ownBlock] at hq; omega) 0 (.slice (some ⟨g5, 0, none⟩) (k + 1) c5)
        have OB6 := (OB.keeps hk5 (fun q hq e => by simp [Value.ownBlock] at hq; omega)).other (g := w2.heap.size + 2) (fun q hq => by simp [Value.ownBlock] at hq; omega) 0 (.slice (some ⟨g5, 0, none⟩) (k + 1) c5)
        have K6 := (hkp.join hk5 (fun q hq e => by subst e; show w2.heap.size ≤ q ∧ q < W3.heap.size; omega)).join ((Keeps.refl (fun q => q = w2.heap.size + 2) w5).setCell (p := ⟨w2.heap.size + 2, 0, none⟩) rfl (.slice (some ⟨g5, 0, none⟩) (k + 1) c5)) (fun q hq e => by subst e; show w2.heap.size ≤ w2.heap.size + 2 ∧ w2.heap.size + 2 < W3.heap.size; omega)
        have hs5 := hk5.size
        have hsz6 : w.heap.size + 1 ≤ (w5.setCell ⟨w2.heap.size + 2, 0, none⟩ (.slice (some ⟨g5, 0, none⟩) (k + 1) c5)).heap.size := by simp; omega
        have hg6 : wo.heap.size ≤ (w5.setCell ⟨w2.heap.size + 2, 0, none⟩ (.slice (some ⟨g5, 0, none⟩) (k + 1) c5)).heap.size := by simp; omega
        have hlgB := (OB.block gB rfl).2
        have hlgA := (OA.block gA rfl).2
        clear hkp5 hk5 hlies5 d5 f5 BB OA OB hkp hown5 dB0 dB1 fB0 fB1
        generalize w5.setCell ⟨w2.heap.size + 2, 0, none⟩ (.slice (some ⟨g5, 0, none⟩) (k + 1) c5) = w6 at *
        have dB1 := B6.cell 1
        have fB1 := B6.free 1
        have hlB := B6.lt
        go_wp2_with (at_builtin; refine wpList_pushL rfl (.tmp 48) (.tmp 50) 24 rfl (w.heap.size + 1) 2 i0 Try.underlying24 hi hz0 hz1 hz2 (.slice (some ⟨gB, 0, none⟩) k cB) (seT M k) (s) rfl OB6 rfl (by simp; omega) hsz6 ?_; intro g7 c7 w7 hown7 hkp7 hlies7; have d7 : w7.cell? ⟨w2.heap.size + 2, 1, none⟩ = some (.slice (some ⟨gB, 0, none⟩) k cB) := (hkp7.cell (p := ⟨w2.heap.size + 2, 1, none⟩) hlB (by simp [Value.ownBlock]; omega)).trans dB1; have f7 : w7.frozen? ⟨w2.heap.size + 2, 1, none⟩ = false := (hkp7.frozen (p := ⟨w2.heap.size + 2, 1, none⟩) hlB (by simp [Value.ownBlock]; omega)).trans fB1)
        rw [seT_len, ← HSS.out] at hown7
        have hk7 : Keeps (fun q => q = gB) w6 w7 := hkp7.mono (fun q hq => by simp [Value.ownBlock] at hq; exact hq.symm)
        have hl7 : gB = g7 ∨ w6.heap.size ≤ g7 := hlies7.imp (fun h => by simpa [Value.ownBlock] using h) id
        have hlA6 := (OA6.block g5 rfl).2
        have B8 := (B6.keeps hk7 (by omega)).set 1 (.slice (some ⟨g7, 0, none⟩) (k + 1) c7)
        have OB8 := hown7.other (g := w2.heap.size + 2) (fun q hq => by simp [Value.ownBlock] at hq; omega) 1 (.slice (some ⟨g7, 0, none⟩) (k + 1) c7)
        have OA8 := (OA6.keeps hk7 (fun q hq e => by simp [Value.ownBlock] at hq; omega)).other (g := w2.heap.size + 2) (fun q hq => by simp [Value.ownBlock] at hq; omega) 1 (.slice (some ⟨g7, 0, none⟩) (k + 1) c7)
        have K8 := (K6.join hk7 (fun q hq e => by subst e; show w2.heap.size ≤ q ∧ q < W3.heap.size; omega)).join ((Keeps.refl (fun q => q = w2.heap.size + 2) w7).setCell (p := ⟨w2.heap.size + 2, 1, none⟩) rfl (.slice (some ⟨g7, 0, none⟩) (k + 1) c7)) (fun q hq e => by subst e; show w2.heap.size ≤ w2.heap.size + 2 ∧ w2.heap.size + 2 < W3.heap.size; omega)
        clear hkp7 hk7 hlies7 d7 f7 B6 OA6 OB6 K6 hown7
        go_wp2
        go_roundw
        case rel => exact ⟨k + 1, g5, c5, g7, c7, by omega, by go_num, B8, OA8, OB8, by omega, by omega, by omega, K8⟩
        case measure => simp [intOf]; omega
      · obtain ⟨hm1, hle⟩ := hra.2 hs
        obtain ⟨au, cu, hVe⟩ := hrV.form
        rw [hVe] at dV
        rw [hm1] at HSS
        generalize (proxOf (parL n) (secM M) k).length = ln at *
        have hln : ¬ (ln : Int) > 1 := by omega
        have hln2 : ¬ (1 : Int) < (ln : Int) := by omega
        clear hcV hrV hra hVe hm1
        go_upto_region 14 with (at_builtin; refine wpList_pushL rfl (.tmp 41) (.tmp 44) 24 rfl (w.heap.size + 1) 2 i0 Try.underlying24 hi hz0 hz1 hz2 (.slice (some ⟨gA, 0, none⟩) k cA) (parL k) ((k : Int) - 1) rfl OA rfl (by simp; omega) hsz ?_; intro g5 c5 w5 hown5 hkp5 hlies5; have d5 : w5.cell? ⟨w2.heap.size + 2, 0, none⟩ = some (.slice (some ⟨gA, 0, none⟩) k cA) := (hkp5.cell (p := ⟨w2.heap.size + 2, 0, none⟩) hlB (by simp [Value.ownBlock]; omega)).trans dB0; have f5 : w5.frozen? ⟨w2.heap.size + 2, 0, none⟩ = false := (hkp5.frozen (p := ⟨w2.heap.size + 2, 0, none⟩) hlB (by simp [Value.ownBlock]; omega)).trans fB0)
        rw [parL_len, ← HPS.out] at hown5
        have hk5 : Keeps (fun q => q = gA) wo w5 := hkp5.mono (fun q hq => by simp [Value.ownBlock] at hq; exact hq.symm)
        have hl5 : gA = g5 ∨ wo.heap.size ≤ g5 := hlies5.imp (fun h => by simpa [Value.ownBlock] using h) id
        have B6 := (BB.keeps hk5 (by omega)).set 0 (.slice (some ⟨g5, 0, none⟩) (k + 1) c5)
        have OA6 := hown5.other (g := w2.heap.size + 2) (fun q hq => by simp [Value.ownBlock] at hq; omega) 0 (.slice (some ⟨g5, 0, none⟩) (k + 1) c5)
        have OB6 := (OB.keeps hk5 (fun q hq e => by simp [Value.ownBlock] at hq; omega)).other (g := w2.heap.size + 2) (fun q hq => by simp [Value.ownBlock] at hq; omega) 0 (.slice (some ⟨g5, 0, none⟩) (k + 1) c5)
        have K6 := (hkp.join hk5 (fun q hq e => by subst e; show w2.heap.size ≤ q ∧ q < W3.heap.size; omega)).join ((Keeps.refl (fun q => q = w2.heap.size + 2) w5).setCell (p := ⟨w2.heap.size + 2, 0, none⟩) rfl (.slice (some ⟨g5, 0, none⟩) (k + 1) c5)) (fun q hq e => by subst e; show w2.heap.size ≤ w2.heap.size + 2 ∧ w2.heap.size + 2 < W3.heap.size; omega)
        have hs5 := hk5.size
        have hsz6 : w.heap.size + 1 ≤ (w5.setCell ⟨w2.heap.size + 2, 0, none⟩ (.slice (some ⟨g5, 0, none⟩) (k + 1) c5)).heap.size := by simp; omega
        have hg6 : wo.heap.size ≤ (w5.setCell ⟨w2.heap.size + 2, 0, none⟩ (.slice (some ⟨g5, 0, none⟩) (k + 1) c5)).heap.size := by simp; omega
        have hlgB := (OB.block gB rfl).2
        have hlgA := (OA.block gA rfl).2
        clear hkp5 hk5 hlies5 d5 f5 BB OA OB hkp hown5 dB0 dB1 fB0 fB1
        generalize w5.setCell ⟨w2.heap.size + 2, 0, none⟩ (.slice (some ⟨g5, 0, none⟩) (k + 1) c5) = w6 at *
        have dB1 := B6.cell 1
        have fB1 := B6.free 1
        have hlB := B6.lt
        go_wp2_with (at_builtin; refine wpList_pushL rfl (.tmp 48) (.tmp 50) 24 rfl (w.heap.size + 1) 2 i0 Try.underlying24 hi hz0 hz1 hz2 (.slice (some ⟨gB, 0, none⟩) k cB) (seT M k) (-1) rfl OB6 rfl (by simp; omega) hsz6 ?_; intro g7 c7 w7 hown7 hkp7 hlies7; have d7 : w7.cell? ⟨w2.heap.size + 2, 1, none⟩ = some (.slice (some ⟨gB, 0, none⟩) k cB) := (hkp7.cell (p := ⟨w2.heap.size + 2, 1, none⟩) hlB (by simp [Value.ownBlock]; omega)).trans dB1; have f7 : w7.frozen? ⟨w2.heap.size + 2, 1, none⟩ = false := (hkp7.frozen (p := ⟨w2.heap.size + 2, 1, none⟩) hlB (by simp [Value.ownBlock]; omega)).trans fB1)
        rw [seT_len, ← HSS.out] at hown7
        have hk7 : Keeps (fun q => q = gB) w6 w7 := hkp7.mono (fun q hq => by simp [Value.ownBlock] at hq; exact hq.symm)
        have hl7 : gB = g7 ∨ w6.heap.size ≤ g7 := hlies7.imp (fun h => by simpa [Value.ownBlock] using h) id
        have hlA6 := (OA6.block g5 rfl).2
        have B8 := (B6.keeps hk7 (by omega)).set 1 (.slice (some ⟨g7, 0, none⟩) (k + 1) c7)
        have OB8 := hown7.other (g := w2.heap.size + 2) (fun q hq => by simp [Value.ownBlock] at hq; omega) 1 (.slice (some ⟨g7, 0, none⟩) (k + 1) c7)
        have OA8 := (OA6.keeps hk7 (fun q hq e => by simp [Value.ownBlock] at hq; omega)).other (g := w2.heap.size + 2) (fun q hq => by simp [Value.ownBlock] at hq; omega) 1 (.slice (some ⟨g7, 0, none⟩) (k + 1) c7)
        have K8 := (K6.join hk7 (fun q hq e => by subst e; show w2.heap.size ≤ q ∧ q < W3.heap.size; omega)).join ((Keeps.refl (fun q => q = w2.heap.size + 2) w7).setCell (p := ⟨w2.heap.size + 2, 1, none⟩) rfl (.slice (some ⟨g7, 0, none⟩) (k + 1) c7)) (fun q hq e => by subst e; show w2.heap.size ≤ w2.heap.size + 2 ∧ w2.heap.size + 2 < W3.heap.size; omega)
        clear hkp7 hk7 hlies7 d7 f7 B6 OA6 OB6 K6 hown7
        go_wp2
        go_roundw
        case rel => exact ⟨k + 1, g5, c5, g7, c7, by omega, by go_num, B8, OA8, OB8, by omega, by omega, by omega, K8⟩
        case measure => simp [intOf]; omega
    · have hke : k = n := by omega
      subst hke
      have fr5 := fr4.trans (hkp.below (B := w.heap.size) (by omega) (fun q hq => by omega))
      have D5 := D4.keeps hkp (by show ¬ (w2.heap.size ≤ w.heap.size + 1 ∧ w.heap.size + 1 < W3.heap.size); omega)
      have Q5 := Q4.keeps hkp (fun g hg h => by simp [Value.ownBlock] at hg; omega)
      have hAB : Apart (.slice (some ⟨gA, 0, none⟩) k cA) (.slice (some ⟨gB, 0, none⟩) k cB) := fun g h1 h2 => by simp [Value.ownBlock] at h1 h2; omega
      have hAQ : Apart (.slice (some ⟨gA, 0, none⟩) k cA) (.slice (some ⟨gq, 0, none⟩) k k) := fun g h1 h2 => by simp [Value.ownBlock] at h1 h2; omega
      have hBQ : Apart (.slice (some ⟨gB, 0, none⟩) k cB) (.slice (some ⟨gq, 0, none⟩) k k) := fun g h1 h2 => by simp [Value.ownBlock] at h1 h2; omega
      have hse : seT M k = secM M := by have := seT_all M; rw [HML.out] at this; exact this
      rw [hse] at OB
      have hK : Keeps (fun q => q = w.heap.size + 1) wo (((wo.setCell ⟨w.heap.size + 1, 0, none⟩ (.slice (some ⟨gA, 0, none⟩) k cA)).setCell ⟨w.heap.size + 1, 1, none⟩ (.slice (some ⟨gB, 0, none⟩) k cB)).setCell ⟨w.heap.size + 1, 2, none⟩ (.slice (some ⟨gq, 0, none⟩) k k)) := ((((Keeps.refl (fun q => q = w.heap.size + 1) wo).setCell (p := ⟨w.heap.size + 1, 0, none⟩) rfl _).setCell (p := ⟨w.heap.size + 1, 1, none⟩) rfl _).setCell (p := ⟨w.heap.size + 1, 2, none⟩) rfl _)
      have F := ((D5.set 0 (.slice (some ⟨gA, 0, none⟩) k cA)).set 1 (.slice (some ⟨gB, 0, none⟩) k cB)).set 2 (.slice (some ⟨gq, 0, none⟩) k k)
      have q0 := F.cell 0
      have q1 := F.cell 1
      have q2 := F.cell 2
      have f0 := D5.free 0
      have f1 := D5.free 1
      have f2 := D5.free 2
      have e0 := D5.cell 0
      have e1 := D5.cell 1
      have e2 := D5.cell 2
      have b0 := BB.cell 0
      have b1 := BB.cell 1
      have b2 := BB.cell 2
      have hlp : (parL k).length = k := parL_len k
      have hls : (secM M).length = k := by rw [secM_len, HML.out]
      have h3 : Own3Q wo (w.heap.size) (.slice (some ⟨gA, 0, none⟩) k cA) (.slice (some ⟨gB, 0, none⟩) k cB) (.slice (some ⟨gq, 0, none⟩) k k) (parL k) (secM M) M := ⟨OA.base_le (Nat.le_succ _), OB.base_le (Nat.le_succ _), Q5.base_le (Nat.le_succ _), hAB, hAQ, hBQ⟩
      have h4 := h3.keeps hK (fun g hg e => by
        rcases hg with hg | hg | hg
        · simp [Value.ownBlock] at hg; omega
        · simp [Value.ownBlock] at hg; omega
        · simp [Value.ownBlock] at hg; omega)
      have hfin : RetCQ w (parL k) (secM M) M 0 (.returned (.tuple #[.agg #[.slice (some ⟨gA, 0, none⟩) k cA, .slice (some ⟨gB, 0, none⟩) k cB, .slice (some ⟨gq, 0, none⟩) k k], .int .i64 0])) (((wo.setCell ⟨w.heap.size + 1, 0, none⟩ (.slice (some ⟨gA, 0, none⟩) k cA)).setCell ⟨w.heap.size + 1, 1, none⟩ (.slice (some ⟨gB, 0, none⟩) k cB)).setCell ⟨w.heap.size + 1, 2, none⟩ (.slice (some ⟨gq, 0, none⟩) k k)) := by
        refine ⟨some ⟨gA, 0, none⟩, cA, some ⟨gB, 0, none⟩, cB, some ⟨gq, 0, none⟩, k, by rw [hlp, hls, HML.out], ?_, fr5.trans (hK.below (B := w.heap.size) (by omega) (fun q hq => by omega))⟩
        rw [hlp, hls, HML.out]
        exact h4
      clear hlp hls h3 h4 hK F hse OA OB Q5 hAB hAQ hBQ BB
      go_wp2
      exact bodyPost_ret (v := .tuple #[.agg #[.slice (some ⟨gA, 0, none⟩) k cA, .slice (some ⟨gB, 0, none⟩) k cB, .slice (some ⟨gq, 0, none⟩) k k], .int .i64 0]) (by simp [results, Try.results40, go_sem, q0, q1, q2]) rfl hfin
theorem implCob_c (v : Value) (T : List Int) (k : Int) (w : World) (h : Rd w v T) :
    Calls Try.prog 40 #[.agg #[v], .int .i64 k] w (RetCQ w (okL (cobB T k) (parL k.toNat)) (okL (cobB T k) (secM (seqL T k.toNat))) (okL (cobB T k) (seqL T k.toNat)) (cobC T k)) := by
  cases hb : braB T
  · rw [(cob_bra hb).1, (cob_bra hb).2]; exact implCob_1 v T k w h hb
  · cases hi : inB k 1 24
    · rw [(cob_num hb hi).1, (cob_num hb hi).2]; exact implCob_2 v T k w h hb hi
    · rw [(cob_ok hb hi).1, (cob_ok hb hi).2]
      have h1 := inB_iff.1 hi
      obtain ⟨n, hn⟩ := Int.eq_ofNat_of_zero_le (show 0 ≤ k by omega)
      subst hn
      rw [Int.toNat_natCast]
      exact implCob_3 v T n w h (braB_iff.1 hb) (by omega) (by omega)
end Go.Proofs.Ytibfigmnoamheaa
