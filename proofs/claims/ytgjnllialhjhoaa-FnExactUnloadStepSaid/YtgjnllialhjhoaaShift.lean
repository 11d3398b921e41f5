/- Contracts: impl.shift: a number is added to the weight of a point, and the excesses follow. -/
import Derived.Test.YtgjnllialhjhoaaUnlSh
import Derived.Test.YtgjnllialhjhoaaSlc
import Derived.Test.YtgjnllialhjhoaaExImpl
namespace Go.Proofs.Ytgjnllialhjhoaa
open Go.RowKit

set_option maxRecDepth 100000 in
set_option maxHeartbeats 4000000 in
theorem shift_c (w0 : World) (v : Value) (R : List (List Int)) (L E : List Int) (gW kW gE kE n i : Nat) (s : Int) (w : World) (hR : RdR w0 v R) (hb : Below w0.heap.size w0 w)
    (hW : OwnI w w0.heap.size (.slice (some ⟨gW, 0, none⟩) n kW) L) (hE : OwnI w w0.heap.size (.slice (some ⟨gE, 0, none⟩) n kE) E) (hne : gW ≠ gE) (hn : L.length = n) (hm : E.length = n) (hr : R.length = n) (hn4 : n ≤ 400) (hi : i < n)
    (hrow : ∀ k, k < (gR R i).length → 0 ≤ gI (gR R i) k ∧ gI (gR R i) k < (n : Int)) (hrl : (gR R i).length ≤ 400)
    (bs : -100000000000000 ≤ s ∧ s ≤ 100000000000000) (bL : ∀ k, -1000000000000000 ≤ gI L k ∧ gI L k ≤ 1000000000000000) (bE : ∀ k, -100000000000000000 ≤ gI E k ∧ gI E k ≤ 100000000000000000) :
    Calls Try.prog 143 #[v, .slice (some ⟨gW, 0, none⟩) n kW, .slice (some ⟨gE, 0, none⟩) n kE, .int .i64 (i : Int), .int .i64 s] w fun e w' =>
      e = .returned (.tuple #[]) ∧ OwnI w' w0.heap.size (.slice (some ⟨gW, 0, none⟩) n kW) (inc L (i : Int) s) ∧ OwnI w' w0.heap.size (.slice (some ⟨gE, 0, none⟩) n kE) (decTo (gR R i) s (inc E (i : Int) s) (gR R i).length) ∧ Keeps (fun b => b = gW ∨ b = gE) w w' ∧ Below w0.heap.size w0 w' := by
  obtain ⟨br, ofr, kr, rfl, hr1, hr2, hrb, hrc⟩ := hR.cells (by omega)
  obtain ⟨u, hu, hru⟩ := hrc i (by omega)
  obtain ⟨au, ku, rfl, hru1, hru2, hru3⟩ := hru
  rw [hr]
  have hgW := (hW.block gW rfl).1
  have hgE := (hE.block gE rfl).1
  have hW' : OwnI w w0.heap.size (.slice (some ⟨gW, 0, none⟩) L.length kW) L := by rw [hn]; exact hW
  have hE' : OwnI w w0.heap.size (.slice (some ⟨gE, 0, none⟩) E.length kE) E := by rw [hm]; exact hE
  have dW := hW'.cell i (by omega)
  have fW := hW'.free i
  have hset := hW'.set i (gI L i + s)
  rw [hn] at hset
  have hk1 : Keeps (fun b => b = gW ∨ b = gE) w (w.setCell ⟨gW, i, none⟩ (.int .i64 (gI L i + s))) := (Keeps.refl _ _).setCell (p := ⟨gW, i, none⟩) (.inl rfl) _
  have hE1 : OwnI (w.setCell ⟨gW, i, none⟩ (.int .i64 (gI L i + s))) w0.heap.size (.slice (some ⟨gE, 0, none⟩) E.length kE) E := hE'.other (fun k hk => by simp [Value.ownBlock] at hk; omega) i _
  have dE1 := hE1.cell i (by omega)
  have fE1 := hE1.free i
  have hset2 := hE1.set i (gI E i + s)
  rw [hm] at hset2
  have hW2 := hset.other (g := gE) (fun k hk => by simp [Value.ownBlock] at hk; omega) i (.int .i64 (gI E i + s))
  have hk2 := hk1.setCell (p := ⟨gE, i, none⟩) (.inr rfl) (.int .i64 (gI E i + s))
  have hb2 := hb.trans (hk2.below hb.size (fun k hk => by omega))
  have eL : inc L (i : Int) s = L.set i (gI L i + s) := by unfold inc; simp
  have eE : inc E (i : Int) s = E.set i (gI E i + s) := by unfold inc; simp
  have hEb : ∀ k, -110000000000000000 ≤ gI (inc E (i : Int) s) k ∧ gI (inc E (i : Int) s) k ≤ 110000000000000000 := by
    intro k
    rw [eE, gI_set]
    split
    · have := bE i; omega
    · have := bE k; omega
  have hEl : (inc E (i : Int) s).length = n := by rw [eE]; simp [hm]
  rw [← eL] at hW2
  rw [← eE] at hset2
  have HW2 := Lib.hid hW2
  have HE2 := Lib.hid hset2
  have HK2 := Lib.hid hk2
  have HB2 := Lib.hid hb2
  have HEB := Lib.hid hEb
  have HEL := Lib.hid hEl
  have HROW := Lib.hid hrow
  have du := hb2.cell (p := ⟨br, ofr + i, none⟩) hrb
  rw [hu] at du
  have bL0 := (bL i).1
  have bL1 := (bL i).2
  have bE0 := (bE i).1
  have bE1 := (bE i).2
  clear hset hset2 hk1 hk2 hE1 hW' hE' hW hE hW2 eL eE hEb hEl hR bL bE hrow hb2 hb hrc hu
  generalize inc L (i : Int) s = L2 at HW2 ⊢
  generalize inc E (i : Int) s = E2 at HE2 HEB HEL ⊢
  generalize gI L i = x at dW dE1 fE1 bL0 bL1 HW2 HE2 HK2 HB2 du
  generalize gI E i = y at dE1 bE0 bE1 HW2 HE2 HK2 HB2 du
  generalize gR R i = row at hru1 hru2 hru3 HROW hrl du ⊢
  obtain ⟨bs0, bs1⟩ := bs
  have hii : (i : Int) < (n : Int) := by omega
  have hi0 : (0 : Int) ≤ (i : Int) := Int.natCast_nonneg _
  go_enter Try.func143, Try.ntmps143
  go_wp2_with fail
  generalize hw2 : (w.setCell ⟨gW, i, none⟩ (.int .i64 (x + s))).setCell ⟨gE, i, none⟩ (.int .i64 (y + s)) = w2 at HW2 HE2 HK2 HB2 du ⊢
  clear hw2 dE1 fE1 dW fW
  go_loopw [11, 31] (fun _ jv wr => ∃ m : Nat, m ≤ row.length ∧ jv = .int .i64 m ∧ OwnI wr w0.heap.size (.slice (some ⟨gW, 0, none⟩) n kW) L2 ∧ OwnI wr w0.heap.size (.slice (some ⟨gE, 0, none⟩) n kE) (decTo row s E2 m) ∧ Keeps (fun b => b = gW ∨ b = gE) w wr ∧ Below w0.heap.size w0 wr) (fun _ jv _ => row.length - (intOf jv).toNat)
  case atStart => exact ⟨0, Nat.zero_le _, rfl, HW2.out, HE2.out, HK2.out, HB2.out⟩
  case round =>
    obtain ⟨m, hm2, rfl, hoW, hoE, hkk, hbb⟩ := hrel
    clear HW2 HE2 HK2 HB2 du
    obtain ⟨wo, rfl⟩ : ∃ wo : World, wo = wr := ⟨_, rfl⟩
    by_cases hmt : m < row.length
    · obtain ⟨b2, off2, rfl, hb2, hcs2⟩ := hru3 (ne_of_lt_len hmt)
      have hc2 : wo.cell? ⟨b2, off2 + m, none⟩ = some (.int .i64 (gI row m)) := by rw [hbb.cell (p := ⟨b2, off2 + m, none⟩) hb2]; exact hcs2 m hmt
      have hxr := HROW.out m hmt
      have hlen : (decTo row s E2 m).length = n := by rw [decTo_len]; exact HEL.out
      have hO : OwnI wo w0.heap.size (.slice (some ⟨gE, 0, none⟩) (decTo row s E2 m).length kE) (decTo row s E2 m) := by rw [hlen]; exact hoE
      have hcell := hO.cell (gI row m).toNat (by rw [hlen]; omega)
      have hfree := hO.free (gI row m).toNat
      have hsm : -200000000000000000 ≤ gI (decTo row s E2 m) (gI row m).toNat ∧ gI (decTo row s E2 m) (gI row m).toNat ≤ 200000000000000000 := by
        have key : ∀ t, t ≤ 400 → ∀ q, -(110000000000000000 + 100000000000000 * t) ≤ gI (decTo row s E2 t) q ∧ gI (decTo row s E2 t) q ≤ 110000000000000000 + 100000000000000 * t := by
          intro t
          induction t with
          | zero => intro _ q; have := HEB.out q; simp [decTo]; omega
          | succ t ih =>
            intro ht q
            have ih := ih (by omega) q
            rw [decTo_succ, gI_dec]
            split <;> omega
        have := key m (by omega) (gI row m).toNat
        omega
      have hset := hO.set (gI row m).toNat (gI (decTo row s E2 m) (gI row m).toNat - s)
      have hset2 : OwnI (wo.setCell ⟨gE, (gI row m).toNat, none⟩ (.int .i64 (gI (decTo row s E2 m) (gI row m).toNat - s))) w0.heap.size (.slice (some ⟨gE, 0, none⟩) n kE) (decTo row s E2 (m + 1)) := by
        rw [hlen] at hset; exact hset
      have hW3 := hoW.other (g := gE) (fun k hk => by simp [Value.ownBlock] at hk; omega) (gI row m).toNat (.int .i64 (gI (decTo row s E2 m) (gI row m).toNat - s))
      have hk3 := hkk.setCell (p := ⟨gE, (gI row m).toNat, none⟩) (.inr rfl) (.int .i64 (gI (decTo row s E2 m) (gI row m).toNat - s))
      have hb3 := hbb.setCell (p := ⟨gE, (gI row m).toNat, none⟩) hgE (.int .i64 (gI (decTo row s E2 m) (gI row m).toNat - s))
      clear hset hO hoE hoW hlen hcs2 hru3 HROW hkk hbb
      have HS := Lib.hid hset2
      have HW3 := Lib.hid hW3
      have HK3 := Lib.hid hk3
      have HB3 := Lib.hid hb3
      clear hset2 hW3 hk3 hb3
      generalize gI (decTo row s E2 m) (gI row m).toNat = z at hcell hsm HS HW3 HK3 HB3
      generalize gI row m = t at hc2 hcell hfree hxr HS HW3 HK3 HB3
      obtain ⟨hx0, hx1⟩ := hxr
      obtain ⟨hs0, hs1⟩ := hsm
      go_wp2
      go_roundw
      case rel => exact ⟨m + 1, by omega, by go_num, HW3.out, HS.out, HK3.out, HB3.out⟩
      case measure => simp [intOf]; omega
    · have hm' : m = row.length := by omega
      subst hm'
      go_wp2
      exact ⟨rfl, .tuple #[], (by simp [results, Try.results143, go_sem]), rfl, hoW, hoE, hkk, hbb⟩
end Go.Proofs.Ytgjnllialhjhoaa
