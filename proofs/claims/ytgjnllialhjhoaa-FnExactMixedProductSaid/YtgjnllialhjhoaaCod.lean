/- Contracts: CodimensionOf. -/
import Derived.Test.YtgjnllialhjhoaaUCL
namespace Go.Proofs.Ytgjnllialhjhoaa
open Go.RowKit

theorem ucC_yes {P S W : List Int} (h : ucB P S W = true) : ucC P S W = 0 := by
  have h1 : cluB P S W = true ∧ uwB P S W = true := by simpa [ucB] using h
  simp [ucC, h1.1, h1.2, okC]
theorem ucC_no {P S W : List Int} (h : ucB P S W = false) : ucC P S W ≠ 0 := by
  unfold ucC
  by_cases h1 : cluB P S W = true
  · rw [if_pos h1]
    have : uwB P S W = false := by simpa [ucB, h1] using h
    simp [okC, this]
  · rw [if_neg h1]; decide
theorem implUC_yes (p s q : Value) (P S W : List Int) (w : World) (hp : Rd w p P) (hs : Rd w s S) (hq : Rd w q W) (h : ucB P S W = true) :
    Calls Try.prog 59 #[.agg #[p, s, q]] w (RetCC w P S (unlL P S W) 0) := by
  have h1 := implUC_c p s q P S W w hp hs hq
  rwa [okL_true h, okL_true h, okL_true h, ucC_yes h] at h1
theorem implUC_no (p s q : Value) (P S W : List Int) (w : World) (hp : Rd w p P) (hs : Rd w s S) (hq : Rd w q W) (h : ucB P S W = false) :
    Calls Try.prog 59 #[.agg #[p, s, q]] w (RetCC w [] [] [] (ucC P S W)) := by
  have h1 := implUC_c p s q P S W w hp hs hq
  rwa [okL_false h, okL_false h, okL_false h] at h1
theorem specUC_yes (p s q : Value) (P S W : List Int) (w : World) (hp : Rd w p P) (hs : Rd w s S) (hq : Rd w q W) (h : ucB P S W = true) :
    Calls Try.prog 58 #[.agg #[p, s, q]] w (RetCC w P S (unlL P S W) 0) := by
  have h1 := specUC_c p s q P S W w hp hs hq
  rwa [okL_true h, okL_true h, okL_true h, ucC_yes h] at h1
theorem specUC_no (p s q : Value) (P S W : List Int) (w : World) (hp : Rd w p P) (hs : Rd w s S) (hq : Rd w q W) (h : ucB P S W = false) :
    Calls Try.prog 58 #[.agg #[p, s, q]] w (RetCC w [] [] [] (ucC P S W)) := by
  have h1 := specUC_c p s q P S W w hp hs hq
  rwa [okL_false h, okL_false h, okL_false h] at h1
theorem unl_num {P S W : List Int} (h : ucB P S W = true) : ∀ i, i < (unlL P S W).length → -100000 ≤ gI (unlL P S W) i ∧ gI (unlL P S W) i ≤ 100000 := by
  have h1 : cluB P S W = true ∧ uwB P S W = true := by simpa [ucB] using h
  exact allIn_iff.1 h1.2

/-- x (x + 1) / 2 -/
def tru (x : Int) : Int := x * (x + 1) / 2
theorem tru_prod (x : Int) (h : -100000 ≤ x ∧ x ≤ 100000) : 0 ≤ x * (x + 1) ∧ x * (x + 1) ≤ 10000100000 := by
  refine ⟨?_, ?_⟩
  · rcases Int.lt_or_le x 0 with h | h
    · exact Int.mul_nonneg_of_nonpos_of_nonpos (by omega) (by omega)
    · exact Int.mul_nonneg (by omega) (by omega)
  · have h2 := mul_abs_le (x := x) (y := x + 1) (B := 100000) (C := 100001) (by omega) (by omega)
    omega
theorem tru_bd (x : Int) (h : -100000 ≤ x ∧ x ≤ 100000) : 0 ≤ tru x ∧ tru x ≤ 10000100000 := by
  have h1 := tru_prod x h
  unfold tru
  omega
/-- The sum of all x (x + 1) / 2. -/
def codL (xs : List Int) : Int := sumTo (fun i => tru (gI xs i)) xs.length

set_option maxRecDepth 100000 in
set_option maxHeartbeats 1000000 in
theorem implCod_yes (p s q : Value) (P S W : List Int) (w : World) (hp : Rd w p P) (hs : Rd w s S) (hq : Rd w q W) (hc : ucB P S W = true) :
    Calls Try.prog 55 #[.agg #[p, s, q]] w fun e w' => e = .returned (.tuple #[.int .i64 (codL (unlL P S W)), .int .i64 0]) ∧ Below w.heap.size w w' := by
  have hx := Boxed.start w 51 #[p, s, q]
  obtain ⟨a1, k1, rfl⟩ := hp.len0
  obtain ⟨a2, k2, rfl⟩ := hs.len0
  obtain ⟨a3, k3, rfl⟩ := hq.len0
  have c0 := hx.cell 0
  have c1 := hx.cell 1
  have c2 := hx.cell 2
  have hnum := Lib.hid (unl_num hc)
  have hlen := unlL_len (ucB_clu hc)
  have h24 := (ucB_clu hc).1.2.1
  go_enter Try.func55, Try.ntmps55
  go_wp2_with fail
  refine (implUC_yes _ _ _ P S W _ (hx.rd hp) (hx.rd hs) (hx.rd hq) hc).mono ?_
  rintro e w1 ⟨b1, j1, b2, j2, b3, j3, rfl, ho, hb⟩
  clear c0 c1 c2
  have hx1 := hx.trans hb
  have hrd := ho.c.rd
  have HCOD := Lib.hid (show codL (unlL P S W) = sumTo (fun i => tru (gI (unlL P S W) i)) (unlL P S W).length from rfl)
  have hl24 : (unlL P S W).length ≤ 24 := by omega
  generalize hxs : unlL P S W = xs at hrd hnum hlen HCOD hl24 ⊢
  have HXS := Lib.hid hxs
  clear hxs
  have hal : Below w1.heap.size w1 (w1.alloc (.cells #[.slice b1 P.length j1, .slice b2 S.length j2, .slice b3 xs.length j3] 51)) := (Below.refl _ _).alloc (Nat.le_refl _) _
  have D := Blk.new w1 51 #[.slice b1 P.length j1, .slice b2 S.length j2, .slice b3 xs.length j3]
  have d2 := D.cell 2
  have hrd2 := hrd.below hal (Nat.le_refl _)
  have hx2 := hx1.trans hal
  clear hrd ho hb D hal hlen
  obtain ⟨a, cap, hge, hcap1, hcap2, hrd⟩ := hrd2
  injection hge with g1 g2 g3
  subst g1 g3
  clear g2
  go_wp2_with fail
  go_loop [6, 8, 20] (fun n _ i => ∃ k : Nat, k ≤ xs.length ∧ i = .int .i64 k ∧ n = .int .i64 (sumTo (fun i => tru (gI xs i)) k)) (fun _ _ i => xs.length - (intOf i).toNat)
  case atStart => exact ⟨0, Nat.zero_le _, rfl, rfl⟩
  case round =>
    obtain ⟨k, hk, rfl, rfl⟩ := hrel
    by_cases hlt : k < xs.length
    · obtain ⟨b, off, rfl, hbl, hcs⟩ := hrd (ne_of_lt_len hlt)
      have hc := hcs k hlt
      have hx := tru_prod _ (hnum.out k hlt)
      have hs := sumTo_bound (f := fun i => tru (gI xs i)) (n := k) 0 10000100000 (fun i hi => tru_bd _ (hnum.out i (by omega)))
      have HS := Lib.hid (sumTo_succ (fun i => tru (gI xs i)) k)
      have hbk := hnum.out k hlt
      clear hcs hrd
      generalize sumTo (fun i => tru (gI xs i)) k = s at hs HS
      generalize gI xs k = x at hc hx HS hbk
      have hs1 : 0 ≤ s := by omega
      have hs2 : s ≤ 100001000000000 := by omega
      clear hs
      obtain ⟨hx1, hx2⟩ := hx
      obtain ⟨hb1, hb2⟩ := hbk
      go_wp2
      go_round
      case rel => exact ⟨k + 1, by omega, by go_num, by rw [HS.out]; rfl⟩
      case measure => simp [intOf]; omega
    · have hk' : k = xs.length := by omega
      subst hk'
      rw [← HCOD.out]
      go_wp2
      go_ret2
      exact ⟨by rw [HXS.out]; rfl, hx2.below⟩

set_option maxRecDepth 100000 in
set_option maxHeartbeats 1000000 in
theorem implCod_no (p s q : Value) (P S W : List Int) (w : World) (hp : Rd w p P) (hs : Rd w s S) (hq : Rd w q W) (hc : ucB P S W = false) :
    Calls Try.prog 55 #[.agg #[p, s, q]] w fun e w' => e = .returned (.tuple #[.int .i64 0, .int .i64 (ucC P S W)]) ∧ Below w.heap.size w w' := by
  have hx := Boxed.start w 51 #[p, s, q]
  obtain ⟨a1, k1, rfl⟩ := hp.len0
  obtain ⟨a2, k2, rfl⟩ := hs.len0
  obtain ⟨a3, k3, rfl⟩ := hq.len0
  have c0 := hx.cell 0
  have c1 := hx.cell 1
  have c2 := hx.cell 2
  have hcn := ucC_no hc
  have hd : (ucC P S W != 0) = true := by simpa using hcn
  clear hcn
  go_enter Try.func55, Try.ntmps55
  go_wp2_with fail
  refine (implUC_no _ _ _ P S W _ (hx.rd hp) (hx.rd hs) (hx.rd hq) hc).mono ?_
  rintro e w1 ⟨b1, j1, b2, j2, b3, j3, rfl, ho, hb⟩
  clear c0 c1 c2
  have hx1 := (hx.trans hb).alloc (.cells #[.slice b1 0 j1, .slice b2 0 j2, .slice b3 0 j3] 51)
  go_wp2
  go_ret2
  exact ⟨rfl, hx1.below⟩

theorem implCod_c (p s q : Value) (P S W : List Int) (w : World) (hp : Rd w p P) (hs : Rd w s S) (hq : Rd w q W) :
    Calls Try.prog 55 #[.agg #[p, s, q]] w fun e w' => e = .returned (.tuple #[.int .i64 (okN (ucB P S W) (codL (unlL P S W))), .int .i64 (ucC P S W)]) ∧ Below w.heap.size w w' := by
  cases hc : ucB P S W
  · rw [okN_false rfl]; exact implCod_no p s q P S W w hp hs hq hc
  · rw [okN_true rfl, ucC_yes hc]; exact implCod_yes p s q P S W w hp hs hq hc

set_option maxRecDepth 100000 in
set_option maxHeartbeats 1000000 in
theorem specCod_yes (p s q : Value) (P S W : List Int) (w : World) (hp : Rd w p P) (hs : Rd w s S) (hq : Rd w q W) (hc : ucB P S W = true) :
    Calls Try.prog 54 #[.agg #[p, s, q]] w fun e w' => e = .returned (.tuple #[.int .i64 (codL (unlL P S W)), .int .i64 0]) ∧ Below w.heap.size w w' := by
  have hx := Boxed.start w 51 #[p, s, q]
  obtain ⟨a1, k1, rfl⟩ := hp.len0
  obtain ⟨a2, k2, rfl⟩ := hs.len0
  obtain ⟨a3, k3, rfl⟩ := hq.len0
  have c0 := hx.cell 0
  have c1 := hx.cell 1
  have c2 := hx.cell 2
  have hnum := Lib.hid (unl_num hc)
  have hlen := unlL_len (ucB_clu hc)
  have h24 := (ucB_clu hc).1.2.1
  have hpos : 0 < (unlL P S W).length := by have := (ucB_clu hc).1.1; omega
  go_enter Try.func54, Try.ntmps54
  go_wp2_with fail
  refine (specUC_yes _ _ _ P S W _ (hx.rd hp) (hx.rd hs) (hx.rd hq) hc).mono ?_
  rintro e w1 ⟨b1, j1, b2, j2, b3, j3, rfl, ho, hb⟩
  clear c0 c1 c2
  have hx1 := hx.trans hb
  have hrd := ho.c.rd
  have HCOD := Lib.hid (show codL (unlL P S W) = sumTo (fun i => tru (gI (unlL P S W) i)) (unlL P S W).length from rfl)
  have hl24 : (unlL P S W).length ≤ 24 := by omega
  generalize hxs : unlL P S W = xs at hrd hnum hlen HCOD hl24 hpos ⊢
  have HXS := Lib.hid hxs
  clear hxs
  have hal : Below w1.heap.size w1 (w1.alloc (.cells #[.slice b1 P.length j1, .slice b2 S.length j2, .slice b3 xs.length j3] 51)) := (Below.refl _ _).alloc (Nat.le_refl _) _
  have D := Blk.new w1 51 #[.slice b1 P.length j1, .slice b2 S.length j2, .slice b3 xs.length j3]
  have hrd2 := hrd.below hal (Nat.le_refl _)
  have hx2 := hx1.trans hal
  obtain ⟨b, off, cap, hge, hcap1, hcap2, hbl, hcs⟩ := hrd2.cells hpos
  injection hge with g1 g2 g3
  subst g1 g3
  clear g2 hrd hrd2 ho hb hlen hal
  go_wp2_with fail
  generalize (w1.alloc (.cells #[.slice b1 P.length j1, .slice b2 S.length j2, .slice (some ⟨b, off, none⟩) xs.length j3] 51)) = wd at D hx2 hbl hcs ⊢
  go_loopw [6, 7] (fun n i wr => ∃ k : Nat, k ≤ xs.length ∧ i = .int .i64 k ∧ n = .int .i64 (sumTo (fun i => tru (gI xs i)) k) ∧ Drew wd wr) (fun _ i _ => xs.length - (intOf i).toNat)
  case atStart => exact ⟨0, Nat.zero_le _, rfl, rfl, Drew.refl _⟩
  case round =>
    obtain ⟨k, hk, rfl, rfl, n, rfl⟩ := hrel
    have d2 := D.cell 2
    by_cases hlt : k < xs.length
    · have hc0 := hcs k hlt
      have hx := tru_prod _ (hnum.out k hlt)
      have hs := sumTo_bound (f := fun i => tru (gI xs i)) (n := k) 0 10000100000 (fun i hi => tru_bd _ (hnum.out i (by omega)))
      have HS := Lib.hid (sumTo_succ (fun i => tru (gI xs i)) k)
      have hbk := hnum.out k hlt
      clear hcs
      generalize sumTo (fun i => tru (gI xs i)) k = s at hs HS
      generalize gI xs k = x at hc0 hx HS hbk
      have hs1 : 0 ≤ s := by omega
      have hs2 : s ≤ 100001000000000 := by omega
      clear hs
      obtain ⟨hx1', hx2'⟩ := hx
      obtain ⟨hb1, hb2⟩ := hbk
      have e1 : IntKind.i64.wrap (x + 1) = x + 1 := IntWalk.i64_in _ (by omega)
      have e2 : IntKind.i64.wrap (x * (x + 1)) = x * (x + 1) := IntWalk.i64_in _ (by omega)
      have e4 : IntKind.i64.wrap (s + x * (x + 1) / 2) = s + x * (x + 1) / 2 := IntWalk.i64_in _ (by omega)
      go_wp2
      go_quiet (fail)
      go_wp2
      go_roundw
      case rel => exact ⟨k + 1, by omega, by go_num, by rw [HS.out]; rfl, by first | exact Drew.one _ _ | exact Drew.two _ _ _⟩
      case measure => simp [intOf]; omega
    · have hk' : k = xs.length := by omega
      subst hk'
      rw [← HCOD.out]
      go_wp2
      go_ret2
      exact ⟨by rw [HXS.out]; rfl, (hx2.drewN _).below⟩

set_option maxRecDepth 100000 in
set_option maxHeartbeats 1000000 in
theorem specCod_no (p s q : Value) (P S W : List Int) (w : World) (hp : Rd w p P) (hs : Rd w s S) (hq : Rd w q W) (hc : ucB P S W = false) :
    Calls Try.prog 54 #[.agg #[p, s, q]] w fun e w' => e = .returned (.tuple #[.int .i64 0, .int .i64 (ucC P S W)]) ∧ Below w.heap.size w w' := by
  have hx := Boxed.start w 51 #[p, s, q]
  obtain ⟨a1, k1, rfl⟩ := hp.len0
  obtain ⟨a2, k2, rfl⟩ := hs.len0
  obtain ⟨a3, k3, rfl⟩ := hq.len0
  have c0 := hx.cell 0
  have c1 := hx.cell 1
  have c2 := hx.cell 2
  have hcn := ucC_no hc
  have hd : (ucC P S W != 0) = true := by simpa using hcn
  clear hcn
  go_enter Try.func54, Try.ntmps54
  go_wp2_with fail
  refine (specUC_no _ _ _ P S W _ (hx.rd hp) (hx.rd hs) (hx.rd hq) hc).mono ?_
  rintro e w1 ⟨b1, j1, b2, j2, b3, j3, rfl, ho, hb⟩
  clear c0 c1 c2
  have hx1 := (hx.trans hb).alloc (.cells #[.slice b1 0 j1, .slice b2 0 j2, .slice b3 0 j3] 51)
  go_wp2
  go_ret2
  exact ⟨rfl, hx1.below⟩

theorem specCod_c (p s q : Value) (P S W : List Int) (w : World) (hp : Rd w p P) (hs : Rd w s S) (hq : Rd w q W) :
    Calls Try.prog 54 #[.agg #[p, s, q]] w fun e w' => e = .returned (.tuple #[.int .i64 (okN (ucB P S W) (codL (unlL P S W))), .int .i64 (ucC P S W)]) ∧ Below w.heap.size w w' := by
  cases hc : ucB P S W
  · rw [okN_false rfl]; exact specCod_no p s q P S W w hp hs hq hc
  · rw [okN_true rfl, ucC_yes hc]; exact specCod_yes p s q P S W w hp hs hq hc
end Go.Proofs.Ytgjnllialhjhoaa
