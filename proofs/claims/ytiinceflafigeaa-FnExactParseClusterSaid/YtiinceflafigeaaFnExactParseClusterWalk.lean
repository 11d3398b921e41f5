/- The walk of 'FnExactParseCluster': spec.ParseCluster and impl.ParseCluster agree, the arguments stay as they are, and what is handed back lies in new memory. -/
import Derived.Test.YtiinceflafigeaaPcI
import Derived.Test.YtiinceflafigeaaPcS
import Derived.Test.YtiinceflafigeaaMarkC
import Derived.Deep.RegionHeld3
namespace Go.Proofs.Ytiinceflafigeaa.fnExactParseCluster
open Go.RowKit

set_option maxRecDepth 100000 in
set_option maxHeartbeats 4000000 in
theorem walk (w : World) (s0 : ByteArray) (_ : s0.size ≤ maxLen) :
    Calls Try.prog 4 #[.string s0] w fun e w' => e = .returned (.bool true) ∧ Below w.heap.size w w' := by
  obtain ⟨P, S, W, c, hR, hl0, hl1, hl2⟩ := pcR_ex (lB s0)
  have HR := Lib.hid hR
  clear hR
  by_cases hz0 : (s0.size : Int) ≤ 1048576
  · skip
    have hsr0 : (P).length ≤ 1048576 := (by omega)
    have hsr1 : (S).length ≤ 1048576 := (by omega)
    have hsr2 : (W).length ≤ 1048576 := (by omega)
    have fr : Below w.heap.size w w := Below.refl _ _
    go_enter Try.func4, Try.ntmps4
    go_wp2_with fail
    refine (specPC_c s0 P S W c _ (by omega) HR.out).mono ?_
    rintro e w1 ⟨ua, ui, ub, uj, uc, uk, rfl, u, hq⟩
    have sz1 := Below.size hq
    have fr := below_step fr hq
    have rg_u := u.block
    have Bu := Blk.new w1 40 #[.slice ua (P).length ui, .slice ub (S).length uj, .slice uc (W).length uk]
    have hal : Below w1.heap.size w1 (w1.alloc (.cells #[.slice ua (P).length ui, .slice ub (S).length uj, .slice uc (W).length uk] 40)) := (Below.refl _ _).alloc (Nat.le_refl _) _
    have u := u.below hal
    have fr := below_step fr hal
    have sa1 : (w1.alloc (.cells #[.slice ua (P).length ui, .slice ub (S).length uj, .slice uc (W).length uk] 40)).heap.size ≤ w1.heap.size + 1 := by simp
    have sb1 : w1.heap.size + 1 ≤ (w1.alloc (.cells #[.slice ua (P).length ui, .slice ub (S).length uj, .slice uc (W).length uk] 40)).heap.size := by simp
    have q_Bu_0 := Bu.cell 0
    have q_Bu_1 := Bu.cell 1
    have q_Bu_2 := Bu.cell 2
    go_wp2_with fail
    clear q_Bu_0 q_Bu_1 q_Bu_2
    refine (implPC_c s0 P S W c _ (by omega) HR.out).mono ?_
    rintro e w2 ⟨ga, gi, gb, gj, gc, gk, rfl, g, hq⟩
    have Bu := Bu.stays hq
    have u := u.below hq
    have sz2 := Below.size hq
    have fr := below_step fr hq
    have rg_g := g.block
    have Bu := Bu.alloc (.cells #[.slice ga (P).length gi, .slice gb (S).length gj, .slice gc (W).length gk] 40)
    have Bg := Blk.new w2 40 #[.slice ga (P).length gi, .slice gb (S).length gj, .slice gc (W).length gk]
    have hal : Below w2.heap.size w2 (w2.alloc (.cells #[.slice ga (P).length gi, .slice gb (S).length gj, .slice gc (W).length gk] 40)) := (Below.refl _ _).alloc (Nat.le_refl _) _
    have u := u.below hal
    have g := g.below hal
    have fr := below_step fr hal
    have sa2 : (w2.alloc (.cells #[.slice ga (P).length gi, .slice gb (S).length gj, .slice gc (W).length gk] 40)).heap.size ≤ w2.heap.size + 1 := by simp
    have sb2 : w2.heap.size + 1 ≤ (w2.alloc (.cells #[.slice ga (P).length gi, .slice gb (S).length gj, .slice gc (W).length gk] 40)).heap.size := by simp
    have q_Bu_0 := Bu.cell 0
    have q_Bu_1 := Bu.cell 1
    have q_Bu_2 := Bu.cell 2
    have q_Bg_0 := Bg.cell 0
    have q_Bg_1 := Bg.cell 1
    have q_Bg_2 := Bg.cell 2
    go_wp2_with fail
    clear q_Bu_0 q_Bu_1 q_Bu_2 q_Bg_0 q_Bg_1 q_Bg_2
    refine (eqCluster_c _ _ _ _ _ _ P S W _ g.a.rd g.b.rd g.c.rd u.a.rd u.b.rd u.c.rd).mono ?_
    rintro e w3 ⟨rfl, hq⟩
    have Bu := Bu.stays hq
    have Bg := Bg.stays hq
    have u := u.below hq
    have g := g.below hq
    have sz3 := Below.size hq
    have fr := below_step fr hq
    have q_Bu_0 := Bu.cell 0
    have q_Bu_1 := Bu.cell 1
    have q_Bu_2 := Bu.cell 2
    have q_Bg_0 := Bg.cell 0
    have q_Bg_1 := Bg.cell 1
    have q_Bg_2 := Bg.cell 2
    go_wp2_with fail
    clear q_Bu_0 q_Bu_1 q_Bu_2 q_Bg_0 q_Bg_1 q_Bg_2
    refine (markCluster_c _ _ _ P S W (1) _ _ g (by omega) (by omega) ⟨(by omega), (by omega), (by omega)⟩).mono ?_
    rintro e w4 ⟨rfl, gn, hk⟩
    have szf := Below.size fr
    have Bu := Bu.keeps hk (fun h => by have := rg_g _ h; omega)
    have Bg := Bg.keeps hk (fun h => by have := rg_g _ h; omega)
    have u := u.keeps hk (fun g h1 h2 => by have := rg_u g h1; have := rg_g g h2; omega)
    have sz4 := Keeps.size hk
    have fr := fr.trans (hk.below (Below.size fr) (fun g h => by have := rg_g g h; omega))
    have g := gn
    have q_Bu_0 := Bu.cell 0
    have q_Bu_1 := Bu.cell 1
    have q_Bu_2 := Bu.cell 2
    have q_Bg_0 := Bg.cell 0
    have q_Bg_1 := Bg.cell 1
    have q_Bg_2 := Bg.cell 2
    go_wp2_with fail
    clear q_Bu_0 q_Bu_1 q_Bu_2 q_Bg_0 q_Bg_1 q_Bg_2
    refine (heldCluster_c _ _ _ (P).length (S).length (W).length 1 _ g.a.rd g.b.rd g.c.rd (by omega) (by omega) ⟨(by omega), (by omega), (by omega)⟩).mono ?_
    rintro e w5 ⟨rfl, hq⟩
    have Bu := Bu.stays hq
    have Bg := Bg.stays hq
    have u := u.below hq
    have g := g.below hq
    have sz5 := Below.size hq
    have fr := below_step fr hq
    have q_Bu_0 := Bu.cell 0
    have q_Bu_1 := Bu.cell 1
    have q_Bu_2 := Bu.cell 2
    have q_Bg_0 := Bg.cell 0
    have q_Bg_1 := Bg.cell 1
    have q_Bg_2 := Bg.cell 2
    go_wp2_with fail
    clear q_Bu_0 q_Bu_1 q_Bu_2 q_Bg_0 q_Bg_1 q_Bg_2
    refine (implPC_c s0 P S W c _ (by omega) HR.out).mono ?_
    rintro e w6 ⟨ha, hi, hb, hj, hc, hk, rfl, h, hq⟩
    have Bu := Bu.stays hq
    have Bg := Bg.stays hq
    have u := u.below hq
    have g := g.below hq
    have sz6 := Below.size hq
    have fr := below_step fr hq
    have rg_h := h.block
    have Bu := Bu.alloc (.cells #[.slice ha (P).length hi, .slice hb (S).length hj, .slice hc (W).length hk] 40)
    have Bg := Bg.alloc (.cells #[.slice ha (P).length hi, .slice hb (S).length hj, .slice hc (W).length hk] 40)
    have Bh := Blk.new w6 40 #[.slice ha (P).length hi, .slice hb (S).length hj, .slice hc (W).length hk]
    have hal : Below w6.heap.size w6 (w6.alloc (.cells #[.slice ha (P).length hi, .slice hb (S).length hj, .slice hc (W).length hk] 40)) := (Below.refl _ _).alloc (Nat.le_refl _) _
    have u := u.below hal
    have g := g.below hal
    have h := h.below hal
    have fr := below_step fr hal
    have sa3 : (w6.alloc (.cells #[.slice ha (P).length hi, .slice hb (S).length hj, .slice hc (W).length hk] 40)).heap.size ≤ w6.heap.size + 1 := by simp
    have sb3 : w6.heap.size + 1 ≤ (w6.alloc (.cells #[.slice ha (P).length hi, .slice hb (S).length hj, .slice hc (W).length hk] 40)).heap.size := by simp
    have q_Bu_0 := Bu.cell 0
    have q_Bu_1 := Bu.cell 1
    have q_Bu_2 := Bu.cell 2
    have q_Bg_0 := Bg.cell 0
    have q_Bg_1 := Bg.cell 1
    have q_Bg_2 := Bg.cell 2
    have q_Bh_0 := Bh.cell 0
    have q_Bh_1 := Bh.cell 1
    have q_Bh_2 := Bh.cell 2
    go_wp2_with fail
    clear q_Bu_0 q_Bu_1 q_Bu_2 q_Bg_0 q_Bg_1 q_Bg_2 q_Bh_0 q_Bh_1 q_Bh_2
    refine (eqCluster_c _ _ _ _ _ _ P S W _ h.a.rd h.b.rd h.c.rd u.a.rd u.b.rd u.c.rd).mono ?_
    rintro e w7 ⟨rfl, hq⟩
    have Bu := Bu.stays hq
    have Bg := Bg.stays hq
    have Bh := Bh.stays hq
    have u := u.below hq
    have g := g.below hq
    have h := h.below hq
    have sz7 := Below.size hq
    have fr := below_step fr hq
    have q_Bu_0 := Bu.cell 0
    have q_Bu_1 := Bu.cell 1
    have q_Bu_2 := Bu.cell 2
    have q_Bg_0 := Bg.cell 0
    have q_Bg_1 := Bg.cell 1
    have q_Bg_2 := Bg.cell 2
    have q_Bh_0 := Bh.cell 0
    have q_Bh_1 := Bh.cell 1
    have q_Bh_2 := Bh.cell 2
    go_wp2_with fail
    clear q_Bu_0 q_Bu_1 q_Bu_2 q_Bg_0 q_Bg_1 q_Bg_2 q_Bh_0 q_Bh_1 q_Bh_2
    refine (heldCluster_c _ _ _ (P).length (S).length (W).length 1 _ g.a.rd g.b.rd g.c.rd (by omega) (by omega) ⟨(by omega), (by omega), (by omega)⟩).mono ?_
    rintro e w8 ⟨rfl, hq⟩
    have Bu := Bu.stays hq
    have Bg := Bg.stays hq
    have Bh := Bh.stays hq
    have u := u.below hq
    have g := g.below hq
    have h := h.below hq
    have sz8 := Below.size hq
    have fr := below_step fr hq
    have q_Bu_0 := Bu.cell 0
    have q_Bu_1 := Bu.cell 1
    have q_Bu_2 := Bu.cell 2
    have q_Bg_0 := Bg.cell 0
    have q_Bg_1 := Bg.cell 1
    have q_Bg_2 := Bg.cell 2
    have q_Bh_0 := Bh.cell 0
    have q_Bh_1 := Bh.cell 1
    have q_Bh_2 := Bh.cell 2
    go_wp2
    go_ret
    exact ⟨rfl, fr⟩
  · skip
    have fr : Below w.heap.size w w := Below.refl _ _
    go_enter Try.func4, Try.ntmps4
    go_wp2
    go_ret
    exact ⟨rfl, fr⟩
end Go.Proofs.Ytiinceflafigeaa.fnExactParseCluster
