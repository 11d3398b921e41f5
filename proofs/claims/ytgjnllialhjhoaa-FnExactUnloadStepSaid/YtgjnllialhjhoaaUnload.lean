/- Contracts: spec.l08Unload: points are unloaded, the least one first, till the cluster is consistent. -/
import Derived.Test.YtgjnllialhjhoaaStep
namespace Go.Proofs.Ytgjnllialhjhoaa
open Go.RowKit

/-- The numbers that a slice reads. -/
def rdL (w : World) (v : Value) (n : Nat) : List Int := (List.range n).map fun i => match v with
  | .slice (some a) _ _ => intOf ((w.cell? ⟨a.block, a.off + i, none⟩).getD (.int .i64 0))
  | _ => 0
theorem rdL_eq {w : World} {v : Value} {xs : List Int} {n : Nat} (h : Rd w v xs) (hn : xs.length = n) : rdL w v n = xs := by
  subst hn
  obtain ⟨a, cap, rfl, h1, h2, h3⟩ := h
  apply gI_ext (by simp [rdL])
  intro i hi
  have hi' : i < xs.length := by simpa [rdL] using hi
  obtain ⟨b, off, rfl, hb, hc⟩ := h3 (by intro e; simp [e] at hi')
  rw [gI_lt hi]
  simp [rdL, hc i hi', intOf]

set_option maxRecDepth 100000 in
set_option maxHeartbeats 2000000 in
theorem l08Unload_c (p s q : Value) (a3 : Option Addr) (n3 k3 : Nat) (v : Value) (P S W W0 : List Int) (w : World) (hp : Rd w p P) (hs : Rd w s S) (hqe : q = .slice a3 n3 k3) (hv : Rd w v W0) (hc : CluOk P S W) (hl : W0.length = P.length) (hu : UnlOk P S fun i => gI W0 i) :
    Calls Try.prog 104 #[.agg #[p, s, q], v] w fun e w' => ∃ a k, e = .returned (.slice a P.length k) ∧ Rd w' (.slice a P.length k) (unlL P S W0) ∧ Below w.heap.size w w' := by
  subst hqe
  have hx := Boxed.start w 51 #[p, s, .slice a3 n3 k3]
  obtain ⟨a1, k1, rfl⟩ := hp.len0
  obtain ⟨a2, k2, rfl⟩ := hs.len0
  obtain ⟨a4, k4, rfl⟩ := hv.len0
  have HC := Lib.hid hc
  have HU := Lib.hid hu
  have HL := Lib.hid hl
  have h24 := hc.1.2.1
  rw [hl] at hv ⊢
  have hway0 : OnWay P S W0 W0 := ⟨hl, Good.refl _ _ _⟩
  clear hc hu hl
  go_enter Try.func104, Try.ntmps104
  go_wp2_with fail
  go_loopw [1, 5] (fun vv _ wr => ∃ L a k, vv = .slice a P.length k ∧ Rd wr (.slice a P.length k) L ∧ OnWay P S W0 L ∧ Boxed w wr 51 #[.slice a1 P.length k1, .slice a2 S.length k2, .slice a3 n3 k3]) (fun vv _ wr => measN P S fun i => gI (rdL wr vv P.length) i)
  case atStart => exact ⟨W0, a4, k4, rfl, hx.rd hv, hway0, hx⟩
  case round =>
    obtain ⟨L, a, k, rfl, hr, hway, hbx⟩ := hrel
    obtain ⟨wo, rfl⟩ : ∃ wo : World, wo = wr := ⟨_, rfl⟩
    have hll := Lib.hid hway.1
    have hsm := Lib.hid (show ∀ i, i < L.length → -1000000000000 ≤ gI L i ∧ gI L i ≤ 1000000000000 from fun i hi => by have := hway.small HC.out HU.out (i := i) (by have := hll.out; omega); omega)
    have hmeq := Lib.hid (rdL_eq hr hll.out)
    have c0 := hbx.cell 0
    have c1 := hbx.cell 1
    have c2 := hbx.cell 2
    go_wp2_with fail
    refine (l08Least_c _ _ _ _ P S W L _ (hbx.rd hp) (hbx.rd hs) hr ⟨_, _, _, rfl⟩ HC.out hll.out hsm.out).mono ?_
    rintro e w2 ⟨rfl, hb2⟩
    have hr2 := hr.below hb2 (Nat.le_refl _)
    have hbx2 := hbx.trans hb2
    clear c0 c1 c2
    rcases leastTo_spec (exL P S L) P.length with ⟨h1, h2⟩ | ⟨h1, h2, h3, h4⟩
    · rw [h1]
      have hd := Lib.hid (hway.done HC.out HU.out HL.out h2)
      clear h1 h2
      go_wp2
      go_ret
      exact ⟨_, _, rfl, by rw [← hd.out]; exact hr2, hbx2.below⟩
    · obtain ⟨t, ht⟩ := Int.eq_ofNat_of_zero_le h1
      rw [ht]
      have htP : t < P.length := by omega
      have e0 : (leastTo (exL P S L) P.length).toNat = t := by omega
      rw [e0] at h3
      have hstep := Lib.hid (hway.step HC.out htP h3)
      have hless := Lib.hid (hway.less HC.out HU.out htP h3)
      clear h1 h2 h4 e0 ht
      have H3 := Lib.hid h3
      clear h3 hway
      have ht0 : ¬ (t : Int) < 0 := by omega
      have c0 := hbx2.cell 0
      have c1 := hbx2.cell 1
      have c2 := hbx2.cell 2
      go_wp2_with fail
      refine (l08Step_c _ _ _ _ _ _ _ P S W L t _ (hbx2.rd hp) (hbx2.rd hs) rfl hr2 HC.out hll.out hsm.out htP H3.out).mono ?_
      rintro e w3 ⟨a', k', rfl, ho3, hb3⟩
      have hbx3 := hbx2.trans hb3
      clear c0 c1 c2
      go_wp2
      go_roundw
      case rel => exact ⟨_, a', k', rfl, ho3.rd, hstep.out, hbx3⟩
      case measure =>
        have e1 := rdL_eq ho3.rd (stL_len P S L t)
        show measN P S (fun i => gI (rdL w3 (.slice a' P.length k') P.length) i) < measN P S (fun i => gI (rdL wo (.slice a P.length k) P.length) i)
        rw [e1, hmeq.out]
        exact hless.out
end Go.Proofs.Ytgjnllialhjhoaa
