/- A cluster whose third list is a piece of a larger block. Contract: its marks. -/
import Derived.Test.YtibfigmnoamheaaHelpB
import Derived.Test.YtibfigmnoamheaaPtQ
namespace Go.Proofs.Ytibfigmnoamheaa
open Go.RowKit

/-- Three slices in blocks of their own, the third one a piece. -/
structure Own3Q (w : World) (base : Nat) (u1 u2 u3 : Value) (xs ys zs : List Int) : Prop where
  a : OwnI w base u1 xs
  b : OwnI w base u2 ys
  c : OwnQ w base u3 zs
  ab : Apart u1 u2
  ac : Apart u1 u3
  bc : Apart u2 u3
theorem Own3Q.keeps {w w' : World} {base : Nat} {a b c : Value} {xs ys zs : List Int} {M : Nat → Prop} (h : Own3Q w base a b c xs ys zs) (hk : Keeps M w w') (hn : ∀ g, Own3.mine a b c g → ¬ M g) : Own3Q w' base a b c xs ys zs :=
  ⟨h.a.keeps hk (fun g hg => hn g (.inl hg)), h.b.keeps hk (fun g hg => hn g (.inr (.inl hg))), h.c.keeps hk (fun g hg => hn g (.inr (.inr hg))), h.ab, h.ac, h.bc⟩
theorem Own3Q.below {w w' : World} {base : Nat} {a b c : Value} {xs ys zs : List Int} (h : Own3Q w base a b c xs ys zs) (hb : Below w.heap.size w w') : Own3Q w' base a b c xs ys zs :=
  ⟨h.a.below hb (Nat.le_refl _), h.b.below hb (Nat.le_refl _), h.c.below hb (Nat.le_refl _), h.ab, h.ac, h.bc⟩
theorem Own3Q.block {w : World} {base : Nat} {a b c : Value} {xs ys zs : List Int} (h : Own3Q w base a b c xs ys zs) : ∀ g, Own3.mine a b c g → base ≤ g ∧ g < w.heap.size := by
  intro g hg
  rcases hg with hg | hg | hg
  · exact h.a.block g hg
  · exact h.b.block g hg
  · exact h.c.block g hg
theorem Own3Q.base_le {w : World} {base base' : Nat} {a b c : Value} {xs ys zs : List Int} (h : Own3Q w base a b c xs ys zs) (hB : base' ≤ base) : Own3Q w base' a b c xs ys zs :=
  ⟨h.a.base_le hB, h.b.base_le hB, h.c.base_le hB, h.ab, h.ac, h.bc⟩
def RetCQ (w : World) (xs ys zs : List Int) (c : Int) (e : Ending) (w' : World) : Prop :=
  ∃ a i b j d k, e = .returned (.tuple #[.agg #[.slice a xs.length i, .slice b ys.length j, .slice d zs.length k], .int .i64 c]) ∧
    Own3Q w' w.heap.size (.slice a xs.length i) (.slice b ys.length j) (.slice d zs.length k) xs ys zs ∧ Below w.heap.size w w'
theorem retCQ_nil {w w' : World} {c : Int} (hb : Below w.heap.size w w') : RetCQ w [] [] [] c (.returned (.tuple #[.agg #[.slice none 0 0, .slice none 0 0, .slice none 0 0], .int .i64 c])) w' :=
  ⟨none, 0, none, 0, none, 0, rfl, ⟨own_nil _ _ _, own_nil _ _ _, OwnQ.nil _ _, fun g h => by simp [Value.ownBlock] at h, fun g h => by simp [Value.ownBlock] at h, fun g h => by simp [Value.ownBlock] at h⟩, hb⟩

set_option maxHeartbeats 400000 in
theorem markClusterQ_c (p s q : Value) (P S W : List Int) (k : Int) (base : Nat) (w : World) (h : Own3Q w base p s q P S W) (h0 : 0 ≤ k) (h1 : k ≤ 100000000) (hn : P.length ≤ 1048576 ∧ S.length ≤ 1048576 ∧ W.length ≤ 1048576) :
    Calls Try.prog 35 #[.agg #[p, s, q], .int .i64 k] w fun e w' => e = .returned (.int .i64 (k + P.length + S.length + W.length)) ∧
      Own3Q w' base p s q (iotaI k P.length) (iotaI (k + P.length) S.length) (iotaI (k + P.length + S.length) W.length) ∧ Keeps (Own3.mine p s q) w w' := by
  obtain ⟨ha, hb, hc, hab, hac, hbc⟩ := h
  obtain ⟨a1, k1, rfl⟩ := ha.rd.len0
  obtain ⟨a2, k2, rfl⟩ := hb.rd.len0
  obtain ⟨a3, k3, rfl⟩ := hc.rd.len0
  have hx := Boxed.start w 40 #[.slice a1 P.length k1, .slice a2 S.length k2, .slice a3 W.length k3]
  have B0 := Blk.new w 40 #[.slice a1 P.length k1, .slice a2 S.length k2, .slice a3 W.length k3]
  have ha1 := ha.below hx.below (Nat.le_refl _)
  have hb1 := hb.below hx.below (Nat.le_refl _)
  have hc1 := hc.below hx.below (Nat.le_refl _)
  go_enter Try.func35, Try.ntmps35
  go_wp2_with fail
  refine (mark_c _ P _ _ _ ha1 h0 (by omega) (by omega)).mono ?_
  rintro e w1 ⟨rfl, ho1, hk1⟩
  have ho2 := hb1.keeps hk1 (fun g hg hg' => hab g hg' hg)
  have ho3 := hc1.keeps hk1 (fun g hg hg' => hac g hg' hg)
  have B1 := B0.keeps hk1 (fun hg => Nat.lt_irrefl _ (ha.block _ hg).2)
  have c1 := B1.cell 1
  clear ha1 hb1 hc1
  go_wp2_with fail
  refine (mark_c _ S _ _ _ ho2 (by omega) (by omega) (by omega)).mono ?_
  rintro e w2 ⟨rfl, hp2, hk2⟩
  have hp1 := ho1.keeps hk2 (fun g hg hg' => hab g hg hg')
  have hp3 := ho3.keeps hk2 (fun g hg hg' => hbc g hg' hg)
  have B2 := B1.keeps hk2 (fun hg => Nat.lt_irrefl _ (hb.block _ hg).2)
  have c2 := B2.cell 2
  clear ho1 ho2 ho3 B1 c1
  go_wp2_with fail
  refine (markQ_c _ W _ _ _ hp3 (by omega) (by omega) (by omega)).mono ?_
  rintro e w3 ⟨rfl, hq3, hk3⟩
  have hq1 := hp1.keeps hk3 (fun g hg hg' => hac g hg hg')
  have hq2 := hp2.keeps hk3 (fun g hg hg' => hbc g hg hg')
  go_wp2
  go_ret
  refine ⟨rfl, ⟨hq1, hq2, hq3, hab, hac, hbc⟩, ?_⟩
  exact (((Keeps.of_below hx.below).trans (hk1.mono (fun _ h => .inl h))).trans (hk2.mono (fun _ h => .inr (.inl h)))).trans (hk3.mono (fun _ h => .inr (.inr h)))
end Go.Proofs.Ytibfigmnoamheaa
