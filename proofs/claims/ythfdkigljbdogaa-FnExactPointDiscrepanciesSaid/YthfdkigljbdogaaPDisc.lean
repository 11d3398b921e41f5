/- Contracts: PointDiscrepancies. -/
import Derived.Test.YthfdkigljbdogaaDisc
namespace Go.Proofs.Ythfdkigljbdogaa
open Go.RowKit

theorem ord_own_congr_to {own own' : Nat → Int} {P S : List Int} {n : Nat} (h : ∀ j, j < n → own j = own' j) (k : Nat) (hk : k ≤ n) : ordTo own P S k = ordTo own' P S k := by
  induction k with
  | zero => rfl
  | succ k ih => rw [ordTo_succ, ordTo_succ, ih (by omega), h k (by omega)]
theorem ord_own_congr {own own' : Nat → Int} {P S : List Int} {n : Nat} (h : ∀ j, j < n → own j = own' j) : ordTo own P S n = ordTo own' P S n := ord_own_congr_to h n (Nat.le_refl _)

set_option maxHeartbeats 1000000 in
theorem implPointDiscrepancies_yes (p s q : Value) (P S W : List Int) (w : World) (hp : Rd w p P) (hs : Rd w s S) (hq : Rd w q W) (hc : cluB P S W = true) :
    Calls Try.prog 44 #[.agg #[p, s, q]] w (RetIC w (discTo P S P.length) 0) := by
  have hx := Boxed.start w 47 #[p, s, q]
  have hcl := cluB_iff.1 hc
  obtain ⟨a1, k1, rfl⟩ := hp.len0
  obtain ⟨a2, k2, rfl⟩ := hs.len0
  obtain ⟨a3, k3, rfl⟩ := hq.len0
  have HC := Lib.hid hcl
  clear hcl
  go_enter Try.func44, Try.ntmps44
  go_wp2_with fail
  refine (implIsCluster_c _ _ _ P S W _ (hx.rd hp) (hx.rd hs) (hx.rd hq)).mono ?_
  rintro e w1 ⟨rfl, hb⟩
  have hx1 := hx.trans hb
  have c0 := hx1.cell 0
  have c1 := hx1.cell 1
  have c2 := hx1.cell 2
  go_wp2_with fail
  refine (discrepancies_c _ _ _ P S W _ (hx1.rd hp) (hx1.rd hs) (hx1.rd hq) HC.out).mono ?_
  rintro e w2 ⟨a, k, rfl, ho, hb2⟩
  go_wp2
  go_ret2
  exact retIC_mk (ho.base_le (Nat.le_of_lt hx1.size)) (hx1.trans hb2).below

theorem implPointDiscrepancies_no (p s q : Value) (P S W : List Int) (w : World) (hp : Rd w p P) (hs : Rd w s S) (hq : Rd w q W) (hc : cluB P S W = false) :
    Calls Try.prog 44 #[.agg #[p, s, q]] w (RetIC w [] 1) := by
  have hx := Boxed.start w 47 #[p, s, q]
  obtain ⟨a1, k1, rfl⟩ := hp.len0
  obtain ⟨a2, k2, rfl⟩ := hs.len0
  obtain ⟨a3, k3, rfl⟩ := hq.len0
  go_enter Try.func44, Try.ntmps44
  go_wp2_with fail
  refine (implIsCluster_c _ _ _ P S W _ (hx.rd hp) (hx.rd hs) (hx.rd hq)).mono ?_
  rintro e w1 ⟨rfl, hb⟩
  go_wp2
  go_ret2
  exact retIC_nil (hx.trans hb).below

theorem implPointDiscrepancies_c (p s q : Value) (P S W : List Int) (w : World) (hp : Rd w p P) (hs : Rd w s S) (hq : Rd w q W) :
    Calls Try.prog 44 #[.agg #[p, s, q]] w (RetIC w (okL (cluB P S W) (discTo P S P.length)) (okC (cluB P S W) 1)) := by
  cases hc : cluB P S W
  · rw [okL_false rfl, okC_false rfl]; exact implPointDiscrepancies_no p s q P S W w hp hs hq hc
  · rw [okL_true rfl, okC_true rfl]; exact implPointDiscrepancies_yes p s q P S W w hp hs hq hc

set_option maxHeartbeats 1000000 in
theorem specPointDiscrepancies_yes (p s q : Value) (P S W : List Int) (w : World) (hp : Rd w p P) (hs : Rd w s S) (hq : Rd w q W) (hc : cluB P S W = true) :
    Calls Try.prog 43 #[.agg #[p, s, q]] w (RetIC w (discTo P S P.length) 0) := by
  have hx := Boxed.start w 47 #[p, s, q]
  have hcl := cluB_iff.1 hc
  obtain ⟨a1, k1, rfl⟩ := hp.len0
  obtain ⟨a2, k2, rfl⟩ := hs.len0
  obtain ⟨a3, k3, rfl⟩ := hq.len0
  have HC := Lib.hid hcl
  clear hcl
  go_enter Try.func43, Try.ntmps43
  go_wp2_with fail
  refine (l07Is_c _ _ _ P S W _ (hx.rd hp) (hx.rd hs) (hx.rd hq)).mono ?_
  rintro e w1 ⟨rfl, hb⟩
  have hx1 := hx.trans hb
  have c0 := hx1.cell 0
  have c1 := hx1.cell 1
  have c2 := hx1.cell 2
  go_wp2_with fail
  have hd : Below w1.heap.size w1 w1.drew := (Below.refl _ _).drew
  have hx0 := hx1.trans hd
  have HD : w1.drew.cell? ⟨w.heap.size, 0, none⟩ = some (.slice a1 P.length k1) ∧ w1.drew.cell? ⟨w.heap.size, 1, none⟩ = some (.slice a2 S.length k2) ∧ w1.drew.cell? ⟨w.heap.size, 2, none⟩ = some (.slice a3 W.length k3) := ⟨hx0.cell 0, hx0.cell 1, hx0.cell 2⟩
  clear c0 c1 c2
  have h24 := HC.out.1.2.1
  go_region_held3 (fun w' => w'.cell? ⟨w.heap.size, 0, none⟩ = some (.slice a1 P.length k1) ∧ w'.cell? ⟨w.heap.size, 1, none⟩ = some (.slice a2 S.length k2) ∧ w'.cell? ⟨w.heap.size, 2, none⟩ = some (.slice a3 W.length k3))
    (first | assumption | exact HD)
    (first
      | (go_at_call 98; (with_reducible refine (l06Ones_c P.length _ (by omega)).mono ?_); rintro e w2 ⟨a, k, rfl, ho, hb2⟩; have hx2 := hx0.trans hb2; have hrd : Rd w2 (.slice a P.length k) (onesTo P.length) := by { have h0 := ho.rd; rw [onesTo_len] at h0; exact h0 }; have HD : w2.cell? ⟨w.heap.size, 0, none⟩ = some (.slice a1 P.length k1) ∧ w2.cell? ⟨w.heap.size, 1, none⟩ = some (.slice a2 S.length k2) ∧ w2.cell? ⟨w.heap.size, 2, none⟩ = some (.slice a3 W.length k3) := ⟨hx2.cell 0, hx2.cell 1, hx2.cell 2⟩)
      | (go_at_call 97; (with_reducible refine (l07Orders_c _ _ (.slice a3 W.length k3) _ P S W (onesTo P.length) _ (hx2.rd hp) (hx2.rd hs) hrd HC.out (onesTo_len _) (fun i hi => by rw [gI_ones (by simpa using hi)]; omega)).mono ?_); rintro e w3 ⟨b, l, rfl, ho3, hb3⟩; have hx3 := hx2.trans hb3; have HD : w3.cell? ⟨w.heap.size, 0, none⟩ = some (.slice a1 P.length k1) ∧ w3.cell? ⟨w.heap.size, 1, none⟩ = some (.slice a2 S.length k2) ∧ w3.cell? ⟨w.heap.size, 2, none⟩ = some (.slice a3 W.length k3) := ⟨hx3.cell 0, hx3.cell 1, hx3.cell 2⟩))
  go_wp2
  go_ret2
  have he : ordTo (fun j => gI (onesTo P.length) j) P S P.length = discTo P S P.length := ord_own_congr (fun j hj => gI_ones hj)
  rw [he] at ho3 ⊢
  exact retIC_mk (ho3.base_le (Nat.le_of_lt hx2.size)) hx3.below

theorem specPointDiscrepancies_no (p s q : Value) (P S W : List Int) (w : World) (hp : Rd w p P) (hs : Rd w s S) (hq : Rd w q W) (hc : cluB P S W = false) :
    Calls Try.prog 43 #[.agg #[p, s, q]] w (RetIC w [] 1) := by
  have hx := Boxed.start w 47 #[p, s, q]
  obtain ⟨a1, k1, rfl⟩ := hp.len0
  obtain ⟨a2, k2, rfl⟩ := hs.len0
  obtain ⟨a3, k3, rfl⟩ := hq.len0
  go_enter Try.func43, Try.ntmps43
  go_wp2_with fail
  refine (l07Is_c _ _ _ P S W _ (hx.rd hp) (hx.rd hs) (hx.rd hq)).mono ?_
  rintro e w1 ⟨rfl, hb⟩
  go_wp2
  go_ret2
  exact retIC_nil (hx.trans hb).below

theorem specPointDiscrepancies_c (p s q : Value) (P S W : List Int) (w : World) (hp : Rd w p P) (hs : Rd w s S) (hq : Rd w q W) :
    Calls Try.prog 43 #[.agg #[p, s, q]] w (RetIC w (okL (cluB P S W) (discTo P S P.length)) (okC (cluB P S W) 1)) := by
  cases hc : cluB P S W
  · rw [okL_false rfl, okC_false rfl]; exact specPointDiscrepancies_no p s q P S W w hp hs hq hc
  · rw [okL_true rfl, okC_true rfl]; exact specPointDiscrepancies_yes p s q P S W w hp hs hq hc

end Go.Proofs.Ythfdkigljbdogaa
