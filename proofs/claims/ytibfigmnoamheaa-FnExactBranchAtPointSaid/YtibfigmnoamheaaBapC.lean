/- Contracts: BranchAtPoint. -/
import Derived.Test.YtibfigmnoamheaaBapW
import Derived.Test.YtibfigmnoamheaaCocS
import Derived.Deep.RegionHeld3
import Derived.Deep.DeepCutAuto
namespace Go.Proofs.Ytibfigmnoamheaa
open Go.RowKit

/-- What BranchAtPoint hands back. -/
def BapR (P S W : List Int) (n : Int) (xs : List Int) (c : Int) : Prop := (ptB P S W n = false ∧ xs = [] ∧ c = ptC P S W n) ∨ (ptB P S W n = true ∧ CvR (pcL S (pathTo P n) ((pathTo P n).length - 1)) xs c)
theorem ptB_parts {P S W : List Int} {n : Int} (h : ptB P S W n = true) : cluB P S W = true ∧ inB n 0 ((P.length : Int) - 1) = true ∧ CluOk P S W ∧ 0 ≤ n ∧ n < (P.length : Int) := by
  unfold ptB at h
  simp only [Bool.and_eq_true] at h
  have := inB_iff.1 h.2
  exact ⟨h.1, h.2, cluB_iff.1 h.1, this.1, by omega⟩
theorem bapR_ex (P S W : List Int) (n : Int) : ∃ xs c, BapR P S W n xs c ∧ xs.length ≤ 7 := by
  cases h : ptB P S W n
  · exact ⟨[], _, .inl ⟨h, rfl, rfl⟩, by simp⟩
  · obtain ⟨_, _, hc, h0, h1⟩ := ptB_parts h
    have hl := pathUp_len P (P.length + 1) n
    have hP := hc.1.2.1
    obtain ⟨xs, c, h3, h4⟩ := cvR_ex (kco_path hc (pathTo_ok hc h0 h1) h1 (by unfold pathTo; omega))
    exact ⟨xs, c, .inr ⟨h, h3⟩, h4⟩
theorem code_of_kcoP {K : List Int} (h : KCo K) : isCodeB K = true := by
  refine isCode_good h.ok.1 fun j hj => ?_
  have h1 := h.step j hj
  have h2 := h.ok.2 j hj
  rcases h1 with h1 | ⟨h0, h1 | ⟨h1, h3⟩⟩
  · simp [codeStep, h1]
  · simp [codeStep, h1, h0]
  · have h4 := h.ok.2 (j - 1) (by omega)
    have hl := h.ok.1
    have hw : Go.RowKit.wrap64 (gI K (j - 1) + 1) = gI K (j - 1) + 1 := IntWalk.wrap64_in _ ⟨by omega, by omega⟩
    simp only [codeStep, hw, h3, decide_eq_true h0]
    have : (gI K (j - 1) != 0) = true := by simp; omega
    simp [this]
theorem ptC_cases {P S W : List Int} {n : Int} (h : ptB P S W n = false) : (cluB P S W = false ∧ ptC P S W n = 1) ∨ (cluB P S W = true ∧ inB n 0 ((P.length : Int) - 1) = false ∧ ptC P S W n = 2) := by
  cases hc : cluB P S W
  · exact .inl ⟨rfl, ptC_bad hc⟩
  · cases hi : inB n 0 ((P.length : Int) - 1)
    · exact .inr ⟨rfl, rfl, ptC_out hc hi⟩
    · rw [ptB_ok hc hi] at h; cases h

set_option maxRecDepth 100000 in
set_option maxHeartbeats 4000000 in
theorem implBap_1 (p s q : Value) (P S W xs : List Int) (n c : Int) (w : World) (hp : Rd w p P) (hs : Rd w s S) (hq : Rd w q W) (hc : cluB P S W = false) (_ : xs = xs) (_ : c = c) :
    Calls Try.prog 113 #[.agg #[p, s, q], .int .i64 n] w (RetBC w [] 1) := by
  obtain ⟨a1, k1, rfl⟩ := hp.len0
  obtain ⟨a2, k2, rfl⟩ := hs.len0
  obtain ⟨a3, k3, rfl⟩ := hq.len0
  have hx := (Boxed.start w 40 #[.slice a1 P.length k1, .slice a2 S.length k2, .slice a3 W.length k3]).alloc (.cells #[.slice none 0 0] 26)
  have D := Blk.new' (w := w.alloc (.cells #[.slice a1 P.length k1, .slice a2 S.length k2, .slice a3 W.length k3] 40)) (t := 26) (cs := #[.slice none 0 0]) (g := w.heap.size + 1) (by simp)
  have c0 := hx.cell 0
  have c1 := hx.cell 1
  have c2 := hx.cell 2
  have HCB := Lib.hid hc
  clear hc
  go_enter Try.func113, Try.ntmps113
  go_wp2_with fail
  refine (implIsCluster_c _ _ _ P S W _ (hx.rd hp) (hx.rd hs) (hx.rd hq)).mono ?_
  rintro e w1 ⟨rfl, hb⟩
  rw [HCB.out]
  have D1 := D.stays hb
  have e0 := D1.cell 0
  have f0 := D1.free 0
  have q0 := (D1.set 0 (.slice none 0 0)).cell 0
  have hfin := retBC_none (c := 1) ((hx.trans hb).below.setCell (p := ⟨w.heap.size + 1, 0, none⟩) (by show w.heap.size ≤ w.heap.size + 1; omega) (.slice none 0 0))
  clear c0 c1 c2
  go_wp2
  exact bodyPost_ret (v := .tuple #[.agg #[.slice none 0 0], .int .i64 1]) (by simp [results, Try.results113, go_sem, q0]) rfl hfin

set_option maxRecDepth 100000 in
set_option maxHeartbeats 4000000 in
theorem implBap_2 (p s q : Value) (P S W xs : List Int) (n c : Int) (w : World) (hp : Rd w p P) (hs : Rd w s S) (hq : Rd w q W) (hc : cluB P S W = true) (hin : inB n 0 ((P.length : Int) - 1) = false) (_ : xs = xs) (_ : c = c) :
    Calls Try.prog 113 #[.agg #[p, s, q], .int .i64 n] w (RetBC w [] 2) := by
  obtain ⟨a1, k1, rfl⟩ := hp.len0
  obtain ⟨a2, k2, rfl⟩ := hs.len0
  obtain ⟨a3, k3, rfl⟩ := hq.len0
  have hx := (Boxed.start w 40 #[.slice a1 P.length k1, .slice a2 S.length k2, .slice a3 W.length k3]).alloc (.cells #[.slice none 0 0] 26)
  have D := Blk.new' (w := w.alloc (.cells #[.slice a1 P.length k1, .slice a2 S.length k2, .slice a3 W.length k3] 40)) (t := 26) (cs := #[.slice none 0 0]) (g := w.heap.size + 1) (by simp)
  have c0 := hx.cell 0
  have c1 := hx.cell 1
  have c2 := hx.cell 2
  have h24 := (cluB_iff.1 hc).1.2.1
  have HCB := Lib.hid hc
  have HIN := Lib.hid hin
  clear hc hin
  go_enter Try.func113, Try.ntmps113
  go_wp2_with fail
  refine (implIsCluster_c _ _ _ P S W _ (hx.rd hp) (hx.rd hs) (hx.rd hq)).mono ?_
  rintro e w1 ⟨rfl, hb⟩
  rw [HCB.out]
  have D1 := D.stays hb
  have hx1 := hx.trans hb
  clear c0 c1 c2
  have c0 := hx1.cell 0
  have c1 := hx1.cell 1
  have c2 := hx1.cell 2
  go_wp2_with fail
  refine (isPoint_c _ _ _ P n _ (hx1.rd hp) h24).mono ?_
  rintro e w2 ⟨rfl, hb2⟩
  rw [HIN.out]
  have D2 := D1.stays hb2
  have e0 := D2.cell 0
  have f0 := D2.free 0
  have q0 := (D2.set 0 (.slice none 0 0)).cell 0
  have hfin := retBC_none (c := 2) ((hx1.trans hb2).below.setCell (p := ⟨w.heap.size + 1, 0, none⟩) (by show w.heap.size ≤ w.heap.size + 1; omega) (.slice none 0 0))
  clear c0 c1 c2
  go_wp2
  exact bodyPost_ret (v := .tuple #[.agg #[.slice none 0 0], .int .i64 2]) (by simp [results, Try.results113, go_sem, q0]) rfl hfin

set_option maxRecDepth 100000 in
set_option maxHeartbeats 4000000 in
theorem implBap_3 (p s q : Value) (P S W xs : List Int) (n c : Int) (w : World) (hp : Rd w p P) (hs : Rd w s S) (hq : Rd w q W) (hpt : ptB P S W n = true) (hR : CvR (pcL S (pathTo P n) ((pathTo P n).length - 1)) xs c) :
    Calls Try.prog 113 #[.agg #[p, s, q], .int .i64 n] w (RetBC w xs c) := by
  obtain ⟨a1, k1, rfl⟩ := hp.len0
  obtain ⟨a2, k2, rfl⟩ := hs.len0
  obtain ⟨a3, k3, rfl⟩ := hq.len0
  have hx := (Boxed.start w 40 #[.slice a1 P.length k1, .slice a2 S.length k2, .slice a3 W.length k3]).alloc (.cells #[.slice none 0 0] 26)
  have D := Blk.new' (w := w.alloc (.cells #[.slice a1 P.length k1, .slice a2 S.length k2, .slice a3 W.length k3] 40)) (t := 26) (cs := #[.slice none 0 0]) (g := w.heap.size + 1) (by simp)
  have c0 := hx.cell 0
  have c1 := hx.cell 1
  have c2 := hx.cell 2
  obtain ⟨hc, hin, hcc, hn0, hn1⟩ := ptB_parts hpt
  have h24 := hcc.1.2.1
  have HCB := Lib.hid hc
  have HIN := Lib.hid hin
  have HCC := Lib.hid hcc
  have HN1 := Lib.hid hn1
  have HR := Lib.hid hR
  clear hc hin hcc hpt hR
  go_enter Try.func113, Try.ntmps113
  go_wp2_with fail
  refine (implIsCluster_c _ _ _ P S W _ (hx.rd hp) (hx.rd hs) (hx.rd hq)).mono ?_
  rintro e w1 ⟨rfl, hb⟩
  rw [HCB.out]
  have D1 := D.stays hb
  have hx1 := hx.trans hb
  clear c0 c1 c2
  have c0 := hx1.cell 0
  have c1 := hx1.cell 1
  have c2 := hx1.cell 2
  go_wp2_with fail
  refine (isPoint_c _ _ _ P n _ (hx1.rd hp) h24).mono ?_
  rintro e w2 ⟨rfl, hb2⟩
  rw [HIN.out]
  have D2 := D1.stays hb2
  have hx2 := hx1.trans hb2
  clear c0 c1 c2
  have c0 := hx2.cell 0
  have c1 := hx2.cell 1
  have c2 := hx2.cell 2
  have hDl := D2.lt
  go_wp2_with fail
  refine (branchAt_c _ _ _ P S W xs n c _ (hx2.rd hp) (hx2.rd hs) (hx2.rd hq) HCC.out hn0 HN1.out HR.out).mono ?_
  rintro e w6 ⟨a6, k6, rfl, hO6, hb6⟩
  have hx6 := hx2.trans hb6
  have D6 := D2.stays hb6
  have e0 := D6.cell 0
  have f0 := D6.free 0
  have q0 := (D6.set 0 (.slice a6 xs.length k6)).cell 0
  have hfin : RetBC w xs c (.returned (.tuple #[.agg #[.slice a6 xs.length k6], .int .i64 c])) (w6.setCell ⟨w.heap.size + 1, 0, none⟩ (.slice a6 xs.length k6)) :=
    retBC_of ((hO6.other (g := w.heap.size + 1) (fun q hq => by have := (hO6.block q hq).1; omega) 0 (.slice a6 xs.length k6)).base_le (by omega)) (hx6.below.setCell (p := ⟨w.heap.size + 1, 0, none⟩) (by show w.heap.size ≤ w.heap.size + 1; omega) (.slice a6 xs.length k6))
  clear hO6 c0 c1 c2
  go_wp2
  exact bodyPost_ret (v := .tuple #[.agg #[.slice a6 xs.length k6], .int .i64 c]) (by simp [results, Try.results113, go_sem, q0]) rfl hfin
theorem implBap_c (p s q : Value) (P S W : List Int) (n : Int) (w : World) (hp : Rd w p P) (hs : Rd w s S) (hq : Rd w q W) (xs : List Int) (c : Int) (hR : BapR P S W n xs c) :
    Calls Try.prog 113 #[.agg #[p, s, q], .int .i64 n] w (RetBC w xs c) := by
  rcases hR with ⟨h1, rfl, rfl⟩ | ⟨h1, h2⟩
  · rcases ptC_cases h1 with ⟨h2, h3⟩ | ⟨h2, h3, h4⟩
    · rw [h3]; exact implBap_1 p s q P S W [] n 1 w hp hs hq h2 rfl rfl
    · rw [h4]; exact implBap_2 p s q P S W [] n 2 w hp hs hq h2 h3 rfl rfl
  · exact implBap_3 p s q P S W xs n c w hp hs hq h1 h2

set_option maxRecDepth 100000 in
set_option maxHeartbeats 4000000 in
theorem specBap_1 (p s q : Value) (P S W : List Int) (n c : Int) (w : World) (hp : Rd w p P) (hs : Rd w s S) (hq : Rd w q W) (hpt : ptC P S W n = c) (hc : c ≠ 0) :
    Calls Try.prog 111 #[.agg #[p, s, q], .int .i64 n] w (RetBC w [] c) := by
  obtain ⟨a1, k1, rfl⟩ := hp.len0
  obtain ⟨a2, k2, rfl⟩ := hs.len0
  obtain ⟨a3, k3, rfl⟩ := hq.len0
  have hx := (Boxed.start w 40 #[.slice a1 P.length k1, .slice a2 S.length k2, .slice a3 W.length k3]).alloc (.cells #[.slice none 0 0] 26)
  have D := Blk.new' (w := w.alloc (.cells #[.slice a1 P.length k1, .slice a2 S.length k2, .slice a3 W.length k3] 40)) (t := 26) (cs := #[.slice none 0 0]) (g := w.heap.size + 1) (by simp)
  have c0 := hx.cell 0
  have c1 := hx.cell 1
  have c2 := hx.cell 2
  have HP := Lib.hid hpt
  have hcb : (c == 0) = false := by simpa using hc
  have hcb2 : (c != 0) = true := by simpa using hc
  clear hpt hc
  go_enter Try.func111, Try.ntmps111
  go_wp2_with fail
  refine (l08Point_c _ _ _ P S W n _ (hx.rd hp) (hx.rd hs) (hx.rd hq)).mono ?_
  rintro e w1 ⟨rfl, hb⟩
  rw [HP.out]
  have D1 := D.stays hb
  have e0 := D1.cell 0
  have f0 := D1.free 0
  have q0 := (D1.set 0 (.slice none 0 0)).cell 0
  have hfin := retBC_none (c := c) ((hx.trans hb).below.setCell (p := ⟨w.heap.size + 1, 0, none⟩) (by show w.heap.size ≤ w.heap.size + 1; omega) (.slice none 0 0))
  clear c0 c1 c2
  go_wp2
  exact bodyPost_ret (v := .tuple #[.agg #[.slice none 0 0], .int .i64 c]) (by simp [results, Try.results111, go_sem, q0]) rfl hfin

set_option maxRecDepth 100000 in
set_option maxHeartbeats 8000000 in
theorem specBap_2 (p s q : Value) (P S W xs : List Int) (n c : Int) (w : World) (hp : Rd w p P) (hs : Rd w s S) (hq : Rd w q W) (hpt : ptB P S W n = true) (hR : CvR (pcL S (pathTo P n) ((pathTo P n).length - 1)) xs c) :
    Calls Try.prog 111 #[.agg #[p, s, q], .int .i64 n] w (RetBC w xs c) := by
  obtain ⟨a1, k1, rfl⟩ := hp.len0
  obtain ⟨a2, k2, rfl⟩ := hs.len0
  obtain ⟨a3, k3, rfl⟩ := hq.len0
  have hx := (Boxed.start w 40 #[.slice a1 P.length k1, .slice a2 S.length k2, .slice a3 W.length k3]).alloc (.cells #[.slice none 0 0] 26)
  have D := Blk.new' (w := w.alloc (.cells #[.slice a1 P.length k1, .slice a2 S.length k2, .slice a3 W.length k3] 40)) (t := 26) (cs := #[.slice none 0 0]) (g := w.heap.size + 1) (by simp)
  have c0 := hx.cell 0
  have c1 := hx.cell 1
  have c2 := hx.cell 2
  have hQ := hq
  obtain ⟨hc, hin, hcc, hn0, hn1⟩ := ptB_parts hpt
  have h24 := hcc.1.2.1
  have hpo := pathTo_ok hcc hn0 hn1
  have hpl : (pathTo P n).length ≤ 25 := by have := pathUp_len P (P.length + 1) n; unfold pathTo; omega
  have HPC := Lib.hid (ptC_ok hc hin)
  have HA1 : Hid (∀ W', Rd W' (.slice a1 P.length k1) P → Calls Try.prog 207 #[.agg #[.slice a1 P.length k1, .slice a2 S.length k2, .slice a3 W.length k3], .int .i64 n] W' (RetI W' (pathTo P n))) := Lib.hid (fun W' h => l08Path_c _ _ _ P S W n W' h hcc hn0 hn1)
  have HB1 : Hid (∀ W' u, Rd W' (.slice a1 P.length k1) P → Rd W' (.slice a2 S.length k2) S → Rd W' (.slice a3 W.length k3) W → Rd W' u (pathTo P n) → Calls Try.prog 206 #[.agg #[.slice a1 P.length k1, .slice a2 S.length k2, .slice a3 W.length k3], u] W' (RetI W' (pcL S (pathTo P n) ((pathTo P n).length - 1)))) := Lib.hid (fun W' u g1 g2 g3 g4 => l08Code_c _ _ _ u P S W (pathTo P n) n W' g1 g2 g3 g4 hcc hpo hn1 hpl)
  have HC1 : Hid (∀ W' u, Rd W' u (pcL S (pathTo P n) ((pathTo P n).length - 1)) → Calls Try.prog 29 #[u] W' (RetBC W' xs c)) := Lib.hid (fun W' u g1 => specCoc_c u _ xs c W' g1 (.inr ⟨code_of_kcoP (kco_path hcc hpo hn1 (by omega)), hR⟩))
  have HLK : Hid ((pcL S (pathTo P n) ((pathTo P n).length - 1)).length = (pathTo P n).length - 1) := Lib.hid (pcL_len _ _ _)
  clear hc hin hcc hpo hpl hR hpt hn0 hn1
  generalize pcL S (pathTo P n) ((pathTo P n).length - 1) = K at *
  generalize pathTo P n = L at *
  clear HLK
  go_enter Try.func111, Try.ntmps111
  go_wp2_with fail
  refine (l08Point_c _ _ _ P S W n _ (hx.rd hp) (hx.rd hs) (hx.rd hq)).mono ?_
  rintro e w2 ⟨rfl, hb⟩
  rw [HPC.out]
  have D2 := D.stays hb
  have hx2 := hx.trans hb
  have hz2 : w.heap.size + 2 ≤ w2.heap.size := D2.lt
  clear c0 c1 c2 hx D hb
  go_wp2_with fail
  go_cut [7, 8] from 17 to 24 (fun s7 s8 wc => ∃ (gb : Nat) (a6 : Option Addr) (k6 : Nat), s7 = .pointer (some ⟨gb, 0, none⟩) ∧ s8 = .int .i64 c ∧ Blk wc gb 26 #[.slice a6 xs.length k6] ∧ OwnI wc (w.heap.size + 2) (.slice a6 xs.length k6) xs ∧ Blk wc (w.heap.size + 1) 26 #[.slice none 0 0] ∧ w.heap.size + 2 ≤ gb ∧ Below w.heap.size w wc)
  case first =>
    have HC : w2.cell? ⟨w.heap.size, 0, none⟩ = some (.slice a1 P.length k1) ∧ w2.cell? ⟨w.heap.size, 1, none⟩ = some (.slice a2 S.length k2) ∧ w2.cell? ⟨w.heap.size, 2, none⟩ = some (.slice a3 W.length k3) := ⟨hx2.cell 0, hx2.cell 1, hx2.cell 2⟩
    have HA : (w2.alloc (.cells #[.slice none 0 0] 26)).cell? ⟨w.heap.size, 0, none⟩ = some (.slice a1 P.length k1) ∧ (w2.alloc (.cells #[.slice none 0 0] 26)).cell? ⟨w.heap.size, 1, none⟩ = some (.slice a2 S.length k2) ∧ (w2.alloc (.cells #[.slice none 0 0] 26)).cell? ⟨w.heap.size, 2, none⟩ = some (.slice a3 W.length k3) := ⟨(hx2.alloc (.cells #[.slice none 0 0] 26)).cell 0, (hx2.alloc (.cells #[.slice none 0 0] 26)).cell 1, (hx2.alloc (.cells #[.slice none 0 0] 26)).cell 2⟩
    go_region_held3 (fun w' => w'.cell? ⟨w.heap.size, 0, none⟩ = some (.slice a1 P.length k1) ∧ w'.cell? ⟨w.heap.size, 1, none⟩ = some (.slice a2 S.length k2) ∧ w'.cell? ⟨w.heap.size, 2, none⟩ = some (.slice a3 W.length k3))
      (first | assumption | exact HC | exact HA | exact HE | exact HS)
      (first
        | (go_at_call 29; have hst : Below wB.heap.size wB wB := Below.refl _ _; have hsC : wB.heap.size ≤ wB.heap.size := Nat.le_refl _; have hX := hxB; have oA := oA.below hst (Nat.le_refl _); have oB := oB.below hst (Nat.le_refl _); (with_reducible refine (HC1.out _ _ oB.rd).mono ?_); rintro e wC ⟨aC, kC, rfl, oC, hq⟩; have hxC := hX.trans hq; have htC := hq.size; have DC := (DB.stays hst).stays hq; have oA := oA.below hq (Nat.le_refl _); have oB := oB.below hq (Nat.le_refl _); (try have E := Blk.stays E hq); have HC : wC.cell? ⟨w.heap.size, 0, none⟩ = some (.slice a1 P.length k1) ∧ wC.cell? ⟨w.heap.size, 1, none⟩ = some (.slice a2 S.length k2) ∧ wC.cell? ⟨w.heap.size, 2, none⟩ = some (.slice a3 W.length k3) := ⟨hxC.cell 0, hxC.cell 1, hxC.cell 2⟩; have HA : (wC.alloc (.cells #[.slice none 0 0] 26)).cell? ⟨w.heap.size, 0, none⟩ = some (.slice a1 P.length k1) ∧ (wC.alloc (.cells #[.slice none 0 0] 26)).cell? ⟨w.heap.size, 1, none⟩ = some (.slice a2 S.length k2) ∧ (wC.alloc (.cells #[.slice none 0 0] 26)).cell? ⟨w.heap.size, 2, none⟩ = some (.slice a3 W.length k3) := ⟨(hxC.alloc (.cells #[.slice none 0 0] 26)).cell 0, (hxC.alloc (.cells #[.slice none 0 0] 26)).cell 1, (hxC.alloc (.cells #[.slice none 0 0] 26)).cell 2⟩; have HE : (wC.alloc (.cells #[.slice aC xs.length kC] 26)).cell? ⟨w.heap.size, 0, none⟩ = some (.slice a1 P.length k1) ∧ (wC.alloc (.cells #[.slice aC xs.length kC] 26)).cell? ⟨w.heap.size, 1, none⟩ = some (.slice a2 S.length k2) ∧ (wC.alloc (.cells #[.slice aC xs.length kC] 26)).cell? ⟨w.heap.size, 2, none⟩ = some (.slice a3 W.length k3) := ⟨(hxC.alloc (.cells #[.slice aC xs.length kC] 26)).cell 0, (hxC.alloc (.cells #[.slice aC xs.length kC] 26)).cell 1, (hxC.alloc (.cells #[.slice aC xs.length kC] 26)).cell 2⟩; have HSof : ∀ EN : Nat, w.heap.size + 2 ≤ EN → Blk wC EN 26 #[.slice none 0 0] → (wC.setCell ⟨EN, 0, none⟩ (.slice aC xs.length kC)).cell? ⟨w.heap.size, 0, none⟩ = some (.slice a1 P.length k1) ∧ (wC.setCell ⟨EN, 0, none⟩ (.slice aC xs.length kC)).cell? ⟨w.heap.size, 1, none⟩ = some (.slice a2 S.length k2) ∧ (wC.setCell ⟨EN, 0, none⟩ (.slice aC xs.length kC)).cell? ⟨w.heap.size, 2, none⟩ = some (.slice a3 W.length k3) := fun EN hEN _ => have h := hxC.wrote ((Keeps.refl (fun k => w.heap.size + 1 ≤ k) wC).setCell (p := ⟨EN, 0, none⟩) (by show w.heap.size + 1 ≤ EN; omega) (.slice aC xs.length kC)); ⟨h.cell 0, h.cell 1, h.cell 2⟩; (try have HS := HSof _ (by first | exact hz2 | omega) E); (try have r0 := Blk.free E 0); (try have t0 := Blk.cell E 0))
        | (go_at_call 206; have hst : Below wA.heap.size wA wA := Below.refl _ _; have hsB : wA.heap.size ≤ wA.heap.size := Nat.le_refl _; have hX := hxA; have oA := oA.below hst (Nat.le_refl _); (with_reducible refine (HB1.out _ _ (hX.rd hp) (hX.rd hs) (hX.rd hQ) oA.rd).mono ?_); rintro e wB ⟨aB, kB, rfl, oB, hq⟩; have hxB := hX.trans hq; have htB := hq.size; have DB := (DA.stays hst).stays hq; have oA := oA.below hq (Nat.le_refl _); (try have E := Blk.stays E hq); have HC : wB.cell? ⟨w.heap.size, 0, none⟩ = some (.slice a1 P.length k1) ∧ wB.cell? ⟨w.heap.size, 1, none⟩ = some (.slice a2 S.length k2) ∧ wB.cell? ⟨w.heap.size, 2, none⟩ = some (.slice a3 W.length k3) := ⟨hxB.cell 0, hxB.cell 1, hxB.cell 2⟩; have HA : (wB.alloc (.cells #[.slice none 0 0] 26)).cell? ⟨w.heap.size, 0, none⟩ = some (.slice a1 P.length k1) ∧ (wB.alloc (.cells #[.slice none 0 0] 26)).cell? ⟨w.heap.size, 1, none⟩ = some (.slice a2 S.length k2) ∧ (wB.alloc (.cells #[.slice none 0 0] 26)).cell? ⟨w.heap.size, 2, none⟩ = some (.slice a3 W.length k3) := ⟨(hxB.alloc (.cells #[.slice none 0 0] 26)).cell 0, (hxB.alloc (.cells #[.slice none 0 0] 26)).cell 1, (hxB.alloc (.cells #[.slice none 0 0] 26)).cell 2⟩)
        | (go_at_call 29; have hst : Below wB.heap.size wB (wB.alloc (.cells #[.slice none 0 0] 26)) := (Below.refl _ _).alloc (Nat.le_refl _) _; have hsC : wB.heap.size + 1 ≤ (wB.alloc (.cells #[.slice none 0 0] 26)).heap.size := (by simp); have hX := hxB.alloc (.cells #[.slice none 0 0] 26); have oA := oA.below hst (Nat.le_refl _); have oB := oB.below hst (Nat.le_refl _); (with_reducible refine (HC1.out _ _ oB.rd).mono ?_); rintro e wC ⟨aC, kC, rfl, oC, hq⟩; have hxC := hX.trans hq; have htC := hq.size; have DC := (DB.stays hst).stays hq; have oA := oA.below hq (Nat.le_refl _); have oB := oB.below hq (Nat.le_refl _); have E := (Blk.new wB 26 #[.slice none 0 0]).stays hq; have HC : wC.cell? ⟨w.heap.size, 0, none⟩ = some (.slice a1 P.length k1) ∧ wC.cell? ⟨w.heap.size, 1, none⟩ = some (.slice a2 S.length k2) ∧ wC.cell? ⟨w.heap.size, 2, none⟩ = some (.slice a3 W.length k3) := ⟨hxC.cell 0, hxC.cell 1, hxC.cell 2⟩; have HA : (wC.alloc (.cells #[.slice none 0 0] 26)).cell? ⟨w.heap.size, 0, none⟩ = some (.slice a1 P.length k1) ∧ (wC.alloc (.cells #[.slice none 0 0] 26)).cell? ⟨w.heap.size, 1, none⟩ = some (.slice a2 S.length k2) ∧ (wC.alloc (.cells #[.slice none 0 0] 26)).cell? ⟨w.heap.size, 2, none⟩ = some (.slice a3 W.length k3) := ⟨(hxC.alloc (.cells #[.slice none 0 0] 26)).cell 0, (hxC.alloc (.cells #[.slice none 0 0] 26)).cell 1, (hxC.alloc (.cells #[.slice none 0 0] 26)).cell 2⟩; have HE : (wC.alloc (.cells #[.slice aC xs.length kC] 26)).cell? ⟨w.heap.size, 0, none⟩ = some (.slice a1 P.length k1) ∧ (wC.alloc (.cells #[.slice aC xs.length kC] 26)).cell? ⟨w.heap.size, 1, none⟩ = some (.slice a2 S.length k2) ∧ (wC.alloc (.cells #[.slice aC xs.length kC] 26)).cell? ⟨w.heap.size, 2, none⟩ = some (.slice a3 W.length k3) := ⟨(hxC.alloc (.cells #[.slice aC xs.length kC] 26)).cell 0, (hxC.alloc (.cells #[.slice aC xs.length kC] 26)).cell 1, (hxC.alloc (.cells #[.slice aC xs.length kC] 26)).cell 2⟩; have HSof : ∀ EN : Nat, w.heap.size + 2 ≤ EN → Blk wC EN 26 #[.slice none 0 0] → (wC.setCell ⟨EN, 0, none⟩ (.slice aC xs.length kC)).cell? ⟨w.heap.size, 0, none⟩ = some (.slice a1 P.length k1) ∧ (wC.setCell ⟨EN, 0, none⟩ (.slice aC xs.length kC)).cell? ⟨w.heap.size, 1, none⟩ = some (.slice a2 S.length k2) ∧ (wC.setCell ⟨EN, 0, none⟩ (.slice aC xs.length kC)).cell? ⟨w.heap.size, 2, none⟩ = some (.slice a3 W.length k3) := fun EN hEN _ => have h := hxC.wrote ((Keeps.refl (fun k => w.heap.size + 1 ≤ k) wC).setCell (p := ⟨EN, 0, none⟩) (by show w.heap.size + 1 ≤ EN; omega) (.slice aC xs.length kC)); ⟨h.cell 0, h.cell 1, h.cell 2⟩; (try have HS := HSof _ (by first | exact hz2 | omega) E); (try have r0 := Blk.free E 0); (try have t0 := Blk.cell E 0))
        | (go_at_call 206; have hst : Below wA.heap.size wA (wA.alloc (.cells #[.slice none 0 0] 26)) := (Below.refl _ _).alloc (Nat.le_refl _) _; have hsB : wA.heap.size + 1 ≤ (wA.alloc (.cells #[.slice none 0 0] 26)).heap.size := (by simp); have hX := hxA.alloc (.cells #[.slice none 0 0] 26); have oA := oA.below hst (Nat.le_refl _); (with_reducible refine (HB1.out _ _ (hX.rd hp) (hX.rd hs) (hX.rd hQ) oA.rd).mono ?_); rintro e wB ⟨aB, kB, rfl, oB, hq⟩; have hxB := hX.trans hq; have htB := hq.size; have DB := (DA.stays hst).stays hq; have oA := oA.below hq (Nat.le_refl _); have E := (Blk.new wA 26 #[.slice none 0 0]).stays hq; have HC : wB.cell? ⟨w.heap.size, 0, none⟩ = some (.slice a1 P.length k1) ∧ wB.cell? ⟨w.heap.size, 1, none⟩ = some (.slice a2 S.length k2) ∧ wB.cell? ⟨w.heap.size, 2, none⟩ = some (.slice a3 W.length k3) := ⟨hxB.cell 0, hxB.cell 1, hxB.cell 2⟩; have HA : (wB.alloc (.cells #[.slice none 0 0] 26)).cell? ⟨w.heap.size, 0, none⟩ = some (.slice a1 P.length k1) ∧ (wB.alloc (.cells #[.slice none 0 0] 26)).cell? ⟨w.heap.size, 1, none⟩ = some (.slice a2 S.length k2) ∧ (wB.alloc (.cells #[.slice none 0 0] 26)).cell? ⟨w.heap.size, 2, none⟩ = some (.slice a3 W.length k3) := ⟨(hxB.alloc (.cells #[.slice none 0 0] 26)).cell 0, (hxB.alloc (.cells #[.slice none 0 0] 26)).cell 1, (hxB.alloc (.cells #[.slice none 0 0] 26)).cell 2⟩)
        | (go_at_call 207; have hst : Below w2.heap.size w2 w2.drew := (Below.refl _ _).drew; have hsA : w2.heap.size ≤ w2.drew.heap.size := Nat.le_refl _; have hX := (hx2).trans (show Below w2.heap.size w2 w2.drew from (Below.refl _ _).drew); (with_reducible refine (HA1.out _ (hX.rd hp)).mono ?_); rintro e wA ⟨aA, kA, rfl, oA, hq⟩; have hxA := hX.trans hq; have htA := hq.size; have DA := (D2.stays hst).stays hq; (try have E := Blk.stays E hq); have HC : wA.cell? ⟨w.heap.size, 0, none⟩ = some (.slice a1 P.length k1) ∧ wA.cell? ⟨w.heap.size, 1, none⟩ = some (.slice a2 S.length k2) ∧ wA.cell? ⟨w.heap.size, 2, none⟩ = some (.slice a3 W.length k3) := ⟨hxA.cell 0, hxA.cell 1, hxA.cell 2⟩; have HA : (wA.alloc (.cells #[.slice none 0 0] 26)).cell? ⟨w.heap.size, 0, none⟩ = some (.slice a1 P.length k1) ∧ (wA.alloc (.cells #[.slice none 0 0] 26)).cell? ⟨w.heap.size, 1, none⟩ = some (.slice a2 S.length k2) ∧ (wA.alloc (.cells #[.slice none 0 0] 26)).cell? ⟨w.heap.size, 2, none⟩ = some (.slice a3 W.length k3) := ⟨(hxA.alloc (.cells #[.slice none 0 0] 26)).cell 0, (hxA.alloc (.cells #[.slice none 0 0] 26)).cell 1, (hxA.alloc (.cells #[.slice none 0 0] 26)).cell 2⟩)
        | (go_at_call 207; have hst : Below w2.heap.size w2 (w2.alloc (.cells #[.slice none 0 0] 26)).drew := ((Below.refl _ _).alloc (Nat.le_refl _) _).drew; have hsA : w2.heap.size + 1 ≤ (w2.alloc (.cells #[.slice none 0 0] 26)).drew.heap.size := (by simp); have hX := (hx2.alloc (.cells #[.slice none 0 0] 26)).trans (show Below (w2.alloc (.cells #[.slice none 0 0] 26)).heap.size (w2.alloc (.cells #[.slice none 0 0] 26)) (w2.alloc (.cells #[.slice none 0 0] 26)).drew from (Below.refl _ _).drew); (with_reducible refine (HA1.out _ (hX.rd hp)).mono ?_); rintro e wA ⟨aA, kA, rfl, oA, hq⟩; have hxA := hX.trans hq; have htA := hq.size; have DA := (D2.stays hst).stays hq; have E := ((Blk.new w2 26 #[.slice none 0 0]).drewN 1).stays hq; have HC : wA.cell? ⟨w.heap.size, 0, none⟩ = some (.slice a1 P.length k1) ∧ wA.cell? ⟨w.heap.size, 1, none⟩ = some (.slice a2 S.length k2) ∧ wA.cell? ⟨w.heap.size, 2, none⟩ = some (.slice a3 W.length k3) := ⟨hxA.cell 0, hxA.cell 1, hxA.cell 2⟩; have HA : (wA.alloc (.cells #[.slice none 0 0] 26)).cell? ⟨w.heap.size, 0, none⟩ = some (.slice a1 P.length k1) ∧ (wA.alloc (.cells #[.slice none 0 0] 26)).cell? ⟨w.heap.size, 1, none⟩ = some (.slice a2 S.length k2) ∧ (wA.alloc (.cells #[.slice none 0 0] 26)).cell? ⟨w.heap.size, 2, none⟩ = some (.slice a3 W.length k3) := ⟨(hxA.alloc (.cells #[.slice none 0 0] 26)).cell 0, (hxA.alloc (.cells #[.slice none 0 0] 26)).cell 1, (hxA.alloc (.cells #[.slice none 0 0] 26)).cell 2⟩))
    all_goals
      clear HC HA
      go_wp2
      go_meet
      first
        | exact ⟨_, aC, kC, rfl, rfl, Blk.new wC _ _, (oC.below ((Below.refl _ _).alloc (Nat.le_refl _) _) (Nat.le_refl _)).base_le (by omega), (DC.alloc _), by omega, (hxC.alloc _).below⟩
        | exact ⟨_, aC, kC, rfl, rfl, E.set 0 _, (oC.other (fun k hk => by have := oC.block k hk; omega) 0 _).base_le (by omega), DC.other (by omega) 0 _, by omega, hxC.below.setCell (p := ⟨_, 0, none⟩) (by dsimp only; omega) _⟩
  case rest =>
    obtain ⟨gb, a6, k6, rfl, rfl, B6, O6, D6, hgb, fr6⟩ := hcut
    have e0 := D6.cell 0
    have f0 := D6.free 0
    have b0 := B6.cell 0
    have q0 := (D6.set 0 (.slice a6 xs.length k6)).cell 0
    have hfin : RetBC w xs c (.returned (.tuple #[.agg #[.slice a6 xs.length k6], .int .i64 c])) (wc.setCell ⟨w.heap.size + 1, 0, none⟩ (.slice a6 xs.length k6)) :=
      retBC_of ((O6.other (g := w.heap.size + 1) (fun q hq => by have := (O6.block q hq).1; omega) 0 (.slice a6 xs.length k6)).base_le (by omega)) (fr6.setCell (p := ⟨w.heap.size + 1, 0, none⟩) (by show w.heap.size ≤ w.heap.size + 1; omega) (.slice a6 xs.length k6))
    clear O6
    go_wp2
    exact bodyPost_ret (v := .tuple #[.agg #[.slice a6 xs.length k6], .int .i64 c]) (by simp [results, Try.results111, go_sem, q0]) rfl hfin
theorem specBap_c (p s q : Value) (P S W : List Int) (n : Int) (w : World) (hp : Rd w p P) (hs : Rd w s S) (hq : Rd w q W) (xs : List Int) (c : Int) (hR : BapR P S W n xs c) :
    Calls Try.prog 111 #[.agg #[p, s, q], .int .i64 n] w (RetBC w xs c) := by
  rcases hR with ⟨h1, rfl, rfl⟩ | ⟨h1, h2⟩
  · refine specBap_1 p s q P S W n _ w hp hs hq rfl ?_
    rcases ptC_cases h1 with ⟨_, h3⟩ | ⟨_, _, h4⟩
    · rw [h3]; decide
    · rw [h4]; decide
  · exact specBap_2 p s q P S W xs n c w hp hs hq h1 h2
theorem implBapW_c (p s q : Value) (P S W : List Int) (n : Int) (w : World) (hp : Rd w p P) (hs : Rd w s S) (hq : Rd w q W) (_ : (Lit.int .i64 n).wf = true) (xs : List Int) (c : Int) (hR : BapR P S W n xs c) :
    Calls Try.prog 113 #[.agg #[p, s, q], .int .i64 n] w (RetBC w xs c) := implBap_c p s q P S W n w hp hs hq xs c hR
theorem specBapW_c (p s q : Value) (P S W : List Int) (n : Int) (w : World) (hp : Rd w p P) (hs : Rd w s S) (hq : Rd w q W) (_ : (Lit.int .i64 n).wf = true) (xs : List Int) (c : Int) (hR : BapR P S W n xs c) :
    Calls Try.prog 111 #[.agg #[p, s, q], .int .i64 n] w (RetBC w xs c) := specBap_c p s q P S W n w hp hs hq xs c hR
end Go.Proofs.Ytibfigmnoamheaa
