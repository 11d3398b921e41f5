/- Contracts as the laws on clusters need them: slices that read as lists, no ownership; likeCluster5. -/
import Derived.Test.YtiinceflafigeaaLaw
import Derived.Test.YtiinceflafigeaaDrwN
import Derived.Test.YtiinceflafigeaaCons
import Derived.Test.YtiinceflafigeaaOrd
namespace Go.Proofs.Ytiinceflafigeaa
open Go.RowKit

set_option maxHeartbeats 1000000 in
theorem likeClu_c (p s q p' s' q' : Value) (P S W : List Int) (w : World) (h1 : Rd w p P) (h2 : Rd w s S) (h3 : Rd w q W) (h1' : Rd w p' P) (h2' : Rd w s' S) (h3' : Rd w q' W) :
    Calls Try.prog 64 #[.agg #[p, s, q], .agg #[p', s', q']] w fun e w' => e = .returned (.bool true) ∧ Below w.heap.size w w' := by
  obtain ⟨a1, k1, rfl⟩ := h1.len0
  obtain ⟨a2, k2, rfl⟩ := h2.len0
  obtain ⟨a3, k3, rfl⟩ := h3.len0
  obtain ⟨a4, k4, rfl⟩ := h1'.len0
  obtain ⟨a5, k5, rfl⟩ := h2'.len0
  obtain ⟨a6, k6, rfl⟩ := h3'.len0
  have B0 := Blk.new w 40 #[.slice a1 P.length k1, .slice a2 S.length k2, .slice a3 W.length k3]
  have B1 := Blk.new' (w := w.alloc (.cells #[.slice a1 P.length k1, .slice a2 S.length k2, .slice a3 W.length k3] 40)) (t := 40) (cs := #[.slice a4 P.length k4, .slice a5 S.length k5, .slice a6 W.length k6]) (g := w.heap.size + 1) (by simp)
  have B0 := B0.alloc (.cells #[.slice a4 P.length k4, .slice a5 S.length k5, .slice a6 W.length k6] 40)
  have hal : Below w.heap.size w ((w.alloc (.cells #[.slice a1 P.length k1, .slice a2 S.length k2, .slice a3 W.length k3] 40)).alloc (.cells #[.slice a4 P.length k4, .slice a5 S.length k5, .slice a6 W.length k6] 40)) := ((Below.refl _ _).alloc (Nat.le_refl _) _).alloc (by simp) _
  have r1 := h1.below hal (Nat.le_refl _)
  have r2 := h2.below hal (Nat.le_refl _)
  have r3 := h3.below hal (Nat.le_refl _)
  have r4 := h1'.below hal (Nat.le_refl _)
  have r5 := h2'.below hal (Nat.le_refl _)
  have r6 := h3'.below hal (Nat.le_refl _)
  have c0 := B0.cell 0
  have d0 := B1.cell 0
  have s1 := eqB_self P
  have s2 := eqB_self S
  have s3 := eqB_self W
  have HS1 := Lib.hid s1
  have HS2 := Lib.hid s2
  have HS3 := Lib.hid s3
  clear h1 h2 h3 h1' h2' h3' s1 s2 s3
  go_enter Try.func64, Try.ntmps64
  go_wp2_with fail
  refine (likeInts_c _ _ P P _ r1 r4).mono ?_
  rintro e w1 ⟨rfl, hd⟩
  rw [HS1.out]
  have hb := hd.below ((w.alloc (.cells #[.slice a1 P.length k1, .slice a2 S.length k2, .slice a3 W.length k3] 40)).alloc (.cells #[.slice a4 P.length k4, .slice a5 S.length k5, .slice a6 W.length k6] 40)).heap.size
  have B0 := B0.stays hb
  have B1 := B1.stays hb
  have r2 := r2.below hb (Nat.le_refl _)
  have r3 := r3.below hb (Nat.le_refl _)
  have r5 := r5.below hb (Nat.le_refl _)
  have r6 := r6.below hb (Nat.le_refl _)
  have hal := below_step hal hb
  clear hd hb c0 d0 r1 r4
  have c1 := B0.cell 1
  have d1 := B1.cell 1
  go_wp2_with fail
  refine (likeInts_c _ _ S S _ r2 r5).mono ?_
  rintro e w2 ⟨rfl, hd⟩
  rw [HS2.out]
  have hb := hd.below w1.heap.size
  have B0 := B0.stays hb
  have B1 := B1.stays hb
  have r3 := r3.below hb (Nat.le_refl _)
  have r6 := r6.below hb (Nat.le_refl _)
  have hal := below_step hal hb
  clear hd hb c1 d1 r2 r5
  have c2 := B0.cell 2
  have d2 := B1.cell 2
  go_wp2_with fail
  refine (likeInts_c _ _ W W _ r3 r6).mono ?_
  rintro e w3 ⟨rfl, hd⟩
  rw [HS3.out]
  have hb := hd.below w2.heap.size
  have hal := below_step hal hb
  clear hd hb c2 d2 r3 r6
  go_wp2
  go_ret
  exact ⟨rfl, hal⟩

/-- The cells of a slice that reads as a list of known length. -/
theorem Rd.atN {w : World} {a : Option Addr} {n k : Nat} {xs : List Int} (h : Rd w (.slice a n k) xs) (hn : xs.length = n) (hp : 0 < n) : ∃ b off, a = some ⟨b, off, none⟩ ∧ b < w.heap.size ∧ ∀ i, i < n → w.cell? ⟨b, off + i, none⟩ = some (.int .i64 (gI xs i)) := by
  subst hn
  obtain ⟨b, off, cap, he, _, _, hb, hc⟩ := h.cells hp
  injection he with e1 _ _
  exact ⟨b, off, e1, hb, hc⟩
/-- A cluster and a code. -/
def RvKC (w : World) (n1 n2 n3 : Nat) (P S W : List Int) (c : Int) (e : Ending) (w' : World) : Prop :=
  ∃ (a b d : Option Addr) (i j k : Nat), e = .returned (.tuple #[.agg #[.slice a n1 i, .slice b n2 j, .slice d n3 k], .int .i64 c]) ∧ Rd w' (.slice a n1 i) P ∧ Rd w' (.slice b n2 j) S ∧ Rd w' (.slice d n3 k) W ∧ Below w.heap.size w w'
theorem rvKC_cc {w : World} {n1 n2 n3 : Nat} {P S W xs ys zs : List Int} {c d : Int} {e : Ending} {w' : World} (h : RetCC w xs ys zs d e w') (h1 : xs = P) (h2 : ys = S) (h3 : zs = W) (l1 : P.length = n1) (l2 : S.length = n2) (l3 : W.length = n3) (hc : d = c) : RvKC w n1 n2 n3 P S W c e w' := by
  subst h1 h2 h3 l1 l2 l3 hc
  obtain ⟨a, i, b, j, dd, k, he, ho, hb⟩ := h
  exact ⟨a, b, dd, i, j, k, he, ho.a.rd, ho.b.rd, ho.c.rd, hb⟩
theorem orders_ok (p s q : Value) (P S W : List Int) (m : Nat) (w : World) (hp : Rd w p P) (hs : Rd w s S) (hq : Rd w q W) (hc : CluOk P S W) (hm : P.length = m) :
    Calls Try.prog 66 #[.agg #[p, s, q]] w (RvC w m (ordTo (fun j => gI W j) P S P.length) 0) :=
  (implClusterOrders_c p s q P S W w hp hs hq).mono fun _ _ hh => rvC_ic hh (by rw [okL_true (cluB_iff.2 hc)]) (by rw [ordTo_len]; exact hm) (by rw [okC_true (cluB_iff.2 hc)])
theorem consist_c (p s q : Value) (P S W : List Int) (b : Bool) (w : World) (hp : Rd w p P) (hs : Rd w s S) (hq : Rd w q W) (hc : CluOk P S W) (hb : nonNeg (exTo (proxL P S) W P.length) = b) :
    Calls Try.prog 65 #[.agg #[p, s, q]] w fun e w' => e = .returned (.tuple #[.bool b, .int .i64 0]) ∧ Below w.heap.size w w' :=
  (implIsConsistent_c p s q P S W w hp hs hq).mono fun _ _ ⟨h1, h2⟩ => ⟨by rw [h1, cluB_iff.2 hc, okC_true rfl, hb]; rfl, h2⟩
end Go.Proofs.Ytiinceflafigeaa
