/- Contracts: OrdersOf. -/
import Derived.Test.YthpnmkghjnipoaaPtO
import Derived.Test.YthpnmkghjnipoaaPtC
import Derived.Test.YthpnmkghjnipoaaSeqL
namespace Go.Proofs.Ythpnmkghjnipoaa
open Go.RowKit

/-- The orders of the first n points. -/
def orL (T : List Int) (n : Nat) : List Int := ordTo (fun i => gI (seqL T n) i) (parL n) (secM (seqL T n)) n
theorem orL_len (T : List Int) (n : Nat) : (orL T n).length = n := ordTo_len _ _ _ _
theorem or_len (T : List Int) (k : Int) : (ckL T k (orL T k.toNat)).length ≤ 400 := by
  by_cases h : ckC T k = 0
  · rw [ckL_ok h, orL_len]
    have := ckC_zero h
    omega
  · rw [ckL_no h]; simp

/-- The function value of OrdersOf: the multiplicity of a point. -/
theorem ordersOfOwn_c (cb : Nat) (q : Value) (W : List Int) (j : Nat) (w : World) (hb : w.cell? ⟨cb, 0, none⟩ = some q) (hq : Rd w q W) (hj : j < W.length) :
    Calls Try.prog 97 #[.int .i64 (j : Int), .pointer (some ⟨cb, 0, none⟩)] w fun e w' => e = .returned (.int .i64 (gI W j)) ∧ w = w' := by
  obtain ⟨b, off, cap, rfl, h1, h2, h3, hc⟩ := hq.cells (by omega)
  have hcj := hc j hj
  clear hc
  go_enter Try.func97, Try.ntmps97
  go_wp2
  go_ret
  exact ⟨rfl, rfl⟩

set_option maxRecDepth 100000 in
set_option maxHeartbeats 1000000 in
theorem implOrdersOf_c (v : Value) (T : List Int) (k : Int) (w : World) (h : Rd w v T) :
    Calls Try.prog 47 #[.agg #[v], .int .i64 k] w (RetIC w (ckL T k (orL T k.toNat)) (ckC T k)) := by
  have hx := Boxed.start w 28 #[v]
  obtain ⟨a, c, rfl⟩ := h.len0
  have c0 := hx.cell 0
  by_cases h0 : ckC T k = 0
  · obtain ⟨hok, hk1, hk2⟩ := ckC_zero h0
    obtain ⟨n, rfl⟩ := Int.eq_ofNat_of_zero_le (show 0 ≤ k by omega)
    have hEu := eu_seq hok n
    have hMl := seqL_len T n
    have hAE := addOk_eu hEu (by rw [hMl]; omega) (own := fun i => gI (seqL T n) i) (fun i hi => by have := hEu.pos i hi; omega)
    have hPl : (proxL (parL n) (secM (seqL T n))).length = n := by simp [proxL]
    have HL := Lib.hid (ckL_ok (xs := orL T ((n : Int)).toNat) h0)
    have hmf : ∀ (fn : Fn) (first cap : Array Value) (w : World), (Instr.makeFunc fn first cap).run Try.prog w = .ok (.func fn first cap) w := fun _ _ _ _ => rfl
    go_enter Try.func47, Try.ntmps47
    go_wp2_with fail
    refine (checkPoints_c _ T _ _ (hx.rd h)).mono ?_
    rintro e w1 ⟨rfl, hb⟩
    rw [h0]
    have hx1 := hx.trans hb
    have c1 := hx1.cell 0
    clear c0
    go_wp2_with fail
    refine (firstOf_c _ T n _ (hx1.rd h) hok (by omega) (by omega)).mono ?_
    rintro e w2 ⟨g, rfl, hg1, hg2, hc, hf, hb2⟩
    have hx2 := hx1.trans hb2
    have hrd := rd_of_cells (seqL_len T n) hg2 (by omega) hc
    clear c1 hc
    go_wp2_with fail
    have hal := (Below.refl w2.heap.size w2).alloc (Nat.le_refl _) (.cells #[.slice (some ⟨g, 0, none⟩) n n] 22)
    have hx3 := hx2.trans hal
    have hrd3 := hrd.below hal (Nat.le_refl _)
    have hbox := Boxed.start w2 22 #[.slice (some ⟨g, 0, none⟩) n n]
    have hcall := proximates_c _ (seqL T n) _ hrd3 hEu (by rw [hMl]; omega) (by rw [hMl]; omega)
    rw [hMl] at hcall hAE
    refine hcall.mono ?_
    rintro e w4 ⟨g4, V, rfl, hR, hb4⟩
    have hx4 := hx3.trans hb4
    have hbox4 := hbox.trans hb4
    have hrd4 := hrd3.below hb4 (Nat.le_refl _)
    have hRd := hR.rd (cap := n) (Nat.le_refl _) (by omega)
    have hadd := added_fn_c (.slice (some ⟨g4, 0, none⟩) n n) (proxL (parL n) (secM (seqL T n))) (fun i => gI (seqL T n) i) w2.heap.size w4 (by unfold proxL; simpa using hRd) hAE.1 (fun j w5 hj hbl => ordersOfOwn_c w2.heap.size (.slice (some ⟨g, 0, none⟩) n n) (seqL T n) j w5 ((hbox4.trans hbl).cell 0) (hrd4.below hbl (Nat.le_refl _)) (by rw [hMl]; omega))
    rw [hPl, hAE.2] at hadd
    clear hcall hRd hR hal hrd hrd3 hrd4 hAE
    go_wp2_with fail
    refine hadd.mono ?_
    rintro e w6 ⟨a6, k6, rfl, hO6, hb6⟩
    have HF := Lib.hid (show RetIC w (ckL T n (orL T ((n : Int)).toNat)) (ckC T n) (.returned (.tuple #[.slice a6 (orL T n).length k6, .int .i64 0])) w6 by
      rw [HL.out, h0]
      exact ⟨a6, k6, rfl, hO6.base_le (Nat.le_of_lt hx4.size), (hx4.trans hb6).below⟩)
    have e1 : (ordTo (fun i => gI (seqL T n) i) (parL n) (secM (seqL T n)) n).length = (orL T n).length := rfl
    rw [e1]
    clear hadd hO6 HL h0 hmf
    go_wp2
    go_ret2
    exact HF.out
  · have HL := Lib.hid (ckL_no (xs := orL T k.toNat) h0)
    go_enter Try.func47, Try.ntmps47
    go_wp2_with fail
    refine (checkPoints_c _ T _ _ (hx.rd h)).mono ?_
    rintro e w1 ⟨rfl, hb⟩
    have hne : (ckC T k != 0) = true := by simp [h0]
    have HF := Lib.hid (show RetIC w (ckL T k (orL T k.toNat)) (ckC T k) (.returned (.tuple #[.slice none 0 0, .int .i64 (ckC T k)])) w1 by rw [HL.out]; exact retIC_nil (hx.trans hb).below)
    clear HL h0
    go_wp2
    go_ret2
    exact HF.out

set_option maxRecDepth 100000 in
set_option maxHeartbeats 1000000 in
theorem specOrdersOf_c (v : Value) (T : List Int) (k : Int) (w : World) (h : Rd w v T) :
    Calls Try.prog 46 #[.agg #[v], .int .i64 k] w (RetIC w (ckL T k (orL T k.toNat)) (ckC T k)) := by
  have hx := Boxed.start w 28 #[v]
  obtain ⟨a, c, rfl⟩ := h.len0
  have c0 := hx.cell 0
  by_cases h0 : ckC T k = 0
  · obtain ⟨hok, hk1, hk2⟩ := ckC_zero h0
    obtain ⟨n, rfl⟩ := Int.eq_ofNat_of_zero_le (show 0 ≤ k by omega)
    have hEu := eu_seq hok n
    have hMl := seqL_len T n
    have hAE := addOk_eu hEu (by rw [hMl]; omega) (own := fun i => gI (seqL T n) i) (fun i hi => by have := hEu.pos i hi; omega)
    have HL := Lib.hid (ckL_ok (xs := orL T ((n : Int)).toNat) h0)
    go_enter Try.func46, Try.ntmps46
    go_wp2_with fail
    refine (l06Range_c _ T _ _ (hx.rd h)).mono ?_
    rintro e w1 ⟨rfl, hb⟩
    rw [h0]
    have hx1 := hx.trans hb
    clear c0 hx hb
    go_wp2_with fail
    have x0 := hx1.trans (Below.refl w1.heap.size w1).drew
    have SS : ∀ W : World, Boxed w W 28 #[.slice a T.length c] → W.cell? ⟨w.heap.size, 0, none⟩ = some (.slice a T.length c) := fun W hW => hW.cell 0
    have k0 := SS _ x0
    have hwp : 0 < (seqL T n).length := by rw [hMl]; omega
    have hwl : (seqL T n).length ≤ 400 := by rw [hMl]; omega
    have hpo : ∀ i, i < (seqL T n).length → 0 ≤ gI (seqL T n) i ∧ gI (seqL T n) i ≤ 64 := fun i hi => by have := hEu.pos i hi; omega
    go_region_held3 (fun w' => w'.cell? ⟨w.heap.size, 0, none⟩ = some (.slice a T.length c))
      (first | assumption | exact k0 | exact HC | exact HD)
      (first
        | (go_at_call 91; (with_reducible refine (l06Code_c _ T n _ (x0.rd h) hok (by omega) (by omega)).mono ?_); rintro e wa ⟨g1, c1, rfl, oa, hba⟩; have xa := x0.trans hba; have HC := SS _ xa; rw [codeL_len, seqL_len])
        | (go_at_call 86; (with_reducible refine (l06Sequence_c _ T n _ (xa.rd h) hok (by omega)).mono ?_); rintro e wb ⟨g2, c2, rfl, ob, hbb⟩; have xb := xa.trans hbb; have HD := SS _ xb; have ra := (by have := oa.rd; rw [codeL_len, seqL_len] at this; exact this.below hbb (Nat.le_refl _) : Rd wb (.slice g1 (n - 1) c1) (codeL (seqL T n))); have rb := (by have := ob.rd; rw [seqL_len] at this; exact this : Rd wb (.slice g2 n c2) (seqL T n)); rw [seqL_len])
        | (go_at_call 94; (with_reducible refine (l06Sums_c _ _ (seqL T n) (seqL T n) _ ra rb hEu hwp hwl rfl hpo).mono ?_); rintro e wc ⟨g3, c3, rfl, oc, hbc⟩; have xc := xb.trans hbc; have HE := SS _ xc))
    rw [hMl] at hAE oc
    rw [hAE.2] at oc ⊢
    have hwb : w.heap.size ≤ wb.heap.size := Nat.le_of_lt xb.size
    have e1 : (ordTo (fun i => gI (seqL T n) i) (parL n) (secM (seqL T n)) n).length = (orL T n).length := rfl
    have HF := Lib.hid (show RetIC w (ckL T n (orL T ((n : Int)).toNat)) (ckC T n) (.returned (.tuple #[.slice g3 (orL T n).length c3, .int .i64 0])) wc by
      rw [HL.out, h0]
      exact ⟨g3, c3, rfl, oc.base_le hwb, xc.below⟩)
    rw [e1]
    clear oc HL h0 oa ob ra rb HC HD HE SS k0 hpo hAE
    go_wp2
    go_ret2
    exact HF.out
  · have HL := Lib.hid (ckL_no (xs := orL T k.toNat) h0)
    go_enter Try.func46, Try.ntmps46
    go_wp2_with fail
    refine (l06Range_c _ T _ _ (hx.rd h)).mono ?_
    rintro e w1 ⟨rfl, hb⟩
    have hne : (ckC T k != 0) = true := by simp [h0]
    have HF := Lib.hid (show RetIC w (ckL T k (orL T k.toNat)) (ckC T k) (.returned (.tuple #[.slice none 0 0, .int .i64 (ckC T k)])) w1 by rw [HL.out]; exact retIC_nil (hx.trans hb).below)
    clear HL h0
    go_wp2
    go_ret2
    exact HF.out
end Go.Proofs.Ythpnmkghjnipoaa
