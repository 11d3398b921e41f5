/- Contracts: impl.unloaded: sweeps over the points till none has a negative excess. -/
import Derived.Test.YtgjnllialhjhoaaShift
import Derived.Test.YtgjnllialhjhoaaWith
import Derived.Test.YtgjnllialhjhoaaPushL
import Derived.Test.YtgjnllialhjhoaaUnload
namespace Go.Proofs.Ytgjnllialhjhoaa
open Go.RowKit

theorem Try.infoN : (Try.prog.info? 3).map (fun i => (i.zero, i.size, i.bytes)) = some (some (.int .i64 0), 1, 8) := by kernel_rfl
theorem Try.infoNN : (Try.prog.info? 110).map (fun i => (i.zero, i.size, i.bytes)) = some (some (.slice none 0 0), 1, 24) := by kernel_rfl

/-- How a sweep stands at the point i: nothing has been done (d), or the measure has fallen. -/
def SwOk (P S L L2 : List Int) (d : Bool) (i : Nat) : Prop := (d = true ∧ L2 = L ∧ ∀ t, t < i → 0 ≤ gI (exL P S L) t) ∨ (d = false ∧ measN P S (fun t => gI L2 t) < measN P S (fun t => gI L t))
theorem SwOk.next {P S L L2 : List Int} {d : Bool} {i : Nat} (h : SwOk P S L L2 d i) (he : 0 ≤ gI (exL P S L2) i) : SwOk P S L L2 d (i + 1) := by
  rcases h with ⟨h1, h2, h3⟩ | h
  · refine .inl ⟨h1, h2, fun t ht => ?_⟩
    by_cases e : t = i
    · subst e; rw [← h2]; exact he
    · exact h3 t (by omega)
  · exact .inr h
theorem SwOk.fell {P S W W0 L L2 : List Int} {d : Bool} {i : Nat} (hc : CluOk P S W) (hu : UnlOk P S fun i => gI W0 i) (h : SwOk P S L L2 d i) (hw : OnWay P S W0 L2) (hi : i < P.length) (he : gI (exL P S L2) i < 0) : SwOk P S L (stL P S L2 i) false (i + 1) := by
  have := hw.less hc hu hi he
  rcases h with ⟨_, h2, _⟩ | h
  · subst h2; exact .inr ⟨rfl, this⟩
  · exact .inr ⟨rfl, Nat.lt_trans this h.2⟩

set_option maxRecDepth 100000 in
set_option maxHeartbeats 4000000 in
theorem unloaded_c (v u : Value) (P S W W0 : List Int) (w : World) (h : RdR w v (proxL P S)) (hu : Rd w u W0) (hc : CluOk P S W) (hl : W0.length = P.length) (hok : UnlOk P S fun i => gI W0 i) :
    Calls Try.prog 121 #[v, u] w (RetL P.length w (unlL P S W0)) := by
  obtain ⟨i0, ii, iz0, iz1, iz2⟩ := info_parts Try.infoN
  obtain ⟨j0, ji, jz0, jz1, jz2⟩ := info_parts Try.infoNN
  have hway0 : OnWay P S W0 W0 := ⟨hl, Good.refl _ _ _⟩
  have hsm0 := Lib.hid (show ∀ i, i < W0.length → -1000000000000 ≤ gI W0 i ∧ gI W0 i ≤ 1000000000000 from fun i hi => by have := hway0.small hc hok (i := i) (by omega); omega)
  have hex := Lib.hid (exOk_clu hc hl hsm0.out)
  have HC := Lib.hid hc
  have HU := Lib.hid hok
  have HL := Lib.hid hl
  have hp : 0 < W0.length := by have := hc.1.1; omega
  have h24 := hc.1.2.1
  have hP0 : 0 < P.length := hc.1.1
  have hWn : W0.length ≤ 1000000 := by omega
  obtain ⟨b, off, cap, rfl, hcap1, hcap2, hrb, hrc⟩ := h.cells (by rw [prox_len]; exact hP0)
  rw [prox_len] at hcap1 hrc h ⊢
  clear hok hc
  go_enter Try.func121, Try.ntmps121
  go_wp2_with fail
  refine (clone_c _ W0 _ hu hp hWn).mono ?_
  rintro e w1 ⟨ao, ko, rfl, hown, hb1⟩
  obtain ⟨gO, kO', hge, hO0, hO1, hO2, hO3⟩ := Own.pos hown hp
  injection hge with hge1 hge2 hge3
  subst hge1 hge3
  clear hge2
  rw [hl] at hown ⊢
  go_wp2_with (at_make; refine wpList_make_full _ rfl (.tmp 21) (.tmp 21) 109 rfl w1.heap.size 110 j0 (.slice none 0 0) 1 Try.underlying109 ji jz0 jz1 _ _ _ _ P.length rfl rfl rfl rfl ?c1 ?c2 ?c3 ?_)
  case c1 => rw [jz2]; omega
  case c2 => unfold maxLen; omega
  case c3 => exact Nat.le_refl _
  intro w2 hownB hgrow
  have hb2 : Below w1.heap.size w1 w2 := (Below.refl _ _).grown hgrow (Nat.le_refl _) (by simp)
  have hRw : Rows 3 w2 w1.heap.size w1.heap.size P.length (fun _ => .slice none 0 0) (fun _ => []) := by
    rw [toList_madeCells_one] at hownB
    exact Rows.made hownB (Nat.le_refl _) ((World.ownsRow.lt hownB) _ rfl).2
  clear hownB hgrow
  go_wp2
  go_loopw [25] (fun i wr => ∃ k : Nat, ∃ V, k ≤ P.length ∧ i = .int .i64 k ∧ Rows 3 wr w1.heap.size w1.heap.size P.length V (bhL P S k) ∧ Below w1.heap.size w1 wr) (fun i _ => P.length - (intOf i).toNat)
  case atStart => exact ⟨0, _, Nat.zero_le _, rfl, hRw.congr (fun i _ => (bhL_zero P S i).symm), hb2⟩
  case round =>
    obtain ⟨k, V, hk, rfl, hrow, hbl⟩ := hrel
    clear hRw hb2
    obtain ⟨wo, rfl⟩ : ∃ wo : World, wo = wr := ⟨_, rfl⟩
    have hb1s := hb1.size
    by_cases hlt : k < P.length
    · have hki : (k : Int) < (P.length : Int) := by omega
      obtain ⟨ur, hur, hru⟩ := hrc k hlt
      rw [prox_row hlt] at hru
      have du : wo.cell? ⟨b, off + k, none⟩ = some ur := by rw [hbl.cell (p := ⟨b, off + k, none⟩) (by simp; omega), hb1.cell (p := ⟨b, off + k, none⟩) hrb]; exact hur
      have hrl := (hex.out.rowlen k (by rw [prox_len]; exact hlt))
      have hrw := Lib.hid (hex.out.row k (by rw [prox_len]; exact hlt))
      rw [prox_row hlt] at hrl hrw
      obtain ⟨ar, kr, rfl, hr1, hr2, hrr⟩ := hru
      clear hur
      go_wp2_with fail
      go_loopw [32] (fun i wr => ∃ m : Nat, ∃ V, m ≤ (proxOf P S k).length ∧ i = .int .i64 m ∧ Rows 3 wr w1.heap.size w1.heap.size P.length V (bhI P S k m) ∧ Below w1.heap.size w1 wr) (fun i _ => (proxOf P S k).length - (intOf i).toNat)
      case atStart => exact ⟨0, _, Nat.zero_le _, rfl, hrow.congr (fun i _ => (bhI_zero P S k i).symm), hbl⟩
      case round =>
        obtain ⟨m, V2, hm, rfl, hrow2, hbl2⟩ := hrel
        clear hrow hbl du
        obtain ⟨wo2, rfl⟩ : ∃ wo : World, wo = wr := ⟨_, rfl⟩
        by_cases hmt : m < (proxOf P S k).length
        · obtain ⟨b2, off2, rfl, hrb2, hcs2⟩ := hrr (ne_of_lt_len hmt)
          have hc2 : wo2.cell? ⟨b2, off2 + m, none⟩ = some (.int .i64 (gI (proxOf P S k) m)) := by rw [hbl2.cell (p := ⟨b2, off2 + m, none⟩) (by simp; omega), hb1.cell (p := ⟨b2, off2 + m, none⟩) hrb2]; exact hcs2 m hmt
          have hxr := hrw.out m hmt
          rw [hl] at hxr
          obtain ⟨x, hx⟩ := Int.eq_ofNat_of_zero_le hxr.1
          have hxP : x < P.length := by omega
          have HX := Lib.hid hx
          have hmi : (m : Int) < ((proxOf P S k).length : Int) := by omega
          rw [hx] at hc2
          have hO := hrow2.row x hxP
          rw [bhI_at HC.out hlt hmt hx] at hO
          have hOl := bhL_le P S x k
          have dV := hrow2.cell x hxP
          have dF := hrow2.free x
          have hsf := hrow2.self x hxP
          have hgl := hrow2.lt
          have hgo := hrow2.lo
          have hxi : (x : Int) < (P.length : Int) := by omega
          have hx0 : (0 : Int) ≤ (x : Int) := Int.natCast_nonneg _
          have HROW := Lib.hid hrow2
          clear hcs2 hxr hx hrow2
          go_wp2_with (at_builtin; refine wpList_pushL rfl (.tmp 41) (.tmp 43) 110 rfl w1.heap.size 3 i0 Try.underlying110 ii iz0 iz1 iz2 (V2 x) (bhL P S k x) (k : Int) rfl hO rfl (by omega) (by omega) ?_; intro g2 c2 w3 hown3 hkp hlies; have d3 := (hkp.cell (p := ⟨w1.heap.size, x, none⟩) hgl hsf).trans dV; have f3 := (hkp.frozen (p := ⟨w1.heap.size, x, none⟩) hgl hsf).trans dF)
          have hput := HROW.out.put hxP hown3 hkp hlies
          have hbl3 := hbl2.trans (((hkp.mono (M' := fun q => w1.heap.size ≤ q) (fun q hq => (hO.block q hq).1)).setCell (p := ⟨w1.heap.size, x, none⟩) (Nat.le_refl _) (.slice (some ⟨g2, 0, none⟩) ((bhL P S k x).length + 1) c2)).below hbl2.size (fun q hq => hq))
          go_roundw
          case rel => exact ⟨m + 1, _, by omega, by go_num, hput.congr (fun i _ => by rw [bhI_step hmt HX.out]; unfold upd; rfl), hbl3⟩
          case measure => simp [intOf]; omega
        · have hm' : m = (proxOf P S k).length := by omega
          subst hm'
          have hr' := hrow2.congr (fun i _ => bhI_all HC.out hlt i)
          go_wp2
          go_roundw
          case rel => exact ⟨k + 1, _, by omega, by go_num, hr', hbl2⟩
          case measure => simp [intOf]; omega
    · have hk' : k = P.length := by omega
      subst hk'
      have h2 := (h.below hb1 (Nat.le_refl _)).below hbl (Nat.le_refl _)
      have hown2 := hown.below hbl (Nat.le_refl _)
      go_wp2_with fail
      refine (excessesOf_c _ _ (proxL P S) W0 _ h2 hown2.rd hex.out hp).mono ?_
      rintro e w4 ⟨ae, ke, rfl, howE, hb4⟩
      have hEl : (exTo (proxL P S) W0 (proxL P S).length).length = P.length := by rw [exTo_len]; exact hl
      obtain ⟨gE, kE, hge, hE0, hE1, hE2, hE3⟩ := Own.pos howE (by rw [hEl]; exact hP0)
      injection hge with hge1 hge2 hge3
      subst hge1 hge3
      have hEx : exTo (proxL P S) W0 (proxL P S).length = exL P S W0 := by rw [prox_len]; rfl
      rw [hEl] at howE ⊢
      rw [hEx] at howE
      have hrow4 := hrow.below hb4
      have hgB := hrow.lt
      have hown4 := hown2.below hb4 (Nat.le_refl _)
      have hbls := hbl.size
      have howE4 := howE.base_le (base' := w.heap.size) (by omega)
      have hbw := below_step (below_step hb1 hbl) hb4
      have hgne : gO ≠ gE := by omega
      have hgB1 : ¬ (w1.heap.size = gO ∨ w1.heap.size = gE) := by omega
      have hcB : ∀ wr, Keeps (fun q => q = gO ∨ q = gE) w4 wr → ∀ i, i < P.length → wr.cell? ⟨w1.heap.size, i, none⟩ = some (V i) := fun wr hk i hi => (hk.cell (p := ⟨w1.heap.size, i, none⟩) hrow4.lt hgB1).trans (hrow4.cell i hi)
      have hrB : ∀ wr, Keeps (fun q => q = gO ∨ q = gE) w4 wr → ∀ i, i < P.length → Own 3 wr w1.heap.size (V i) (bhL P S P.length i) := fun wr hk i hi => (hrow4.row i hi).keeps hk (fun q h1 h2 => by have := (hrow.row i hi).block q h1; omega)
      have HCB := Lib.hid hcB
      have HRB := Lib.hid hrB
      clear hge2 hEx hEl hcB hrB hrow hrow4 hbl hown2 hown h2 howE hb4
      go_wp2_with fail
      go_loopw [12] (fun _ wr => ∃ L, OwnI wr w.heap.size (.slice (some ⟨gO, 0, none⟩) P.length ko) L ∧ OwnI wr w.heap.size (.slice (some ⟨gE, 0, none⟩) P.length ke) (exL P S L) ∧ OnWay P S W0 L ∧ Keeps (fun q => q = gO ∨ q = gE) w4 wr ∧ Below w.heap.size w wr) (fun _ wr => measN P S fun i => gI (rdL wr (.slice (some ⟨gO, 0, none⟩) P.length ko) P.length) i)
      case atStart => exact ⟨W0, hown4, howE4, hway0, Keeps.refl _ _, hbw⟩
      case round =>
        obtain ⟨L, hoO, hoE, hway, hkp, hbw⟩ := hrel
        clear hown4 howE4 hway0
        obtain ⟨wq, rfl⟩ : ∃ wo : World, wo = wr := ⟨_, rfl⟩
        have hmeq := Lib.hid (rdL_eq hoO.rd hway.1)
        go_wp2_with fail
        go_loopw [12, 53] (fun dv iv wr => ∃ i : Nat, ∃ L2 d, i ≤ P.length ∧ iv = .int .i64 i ∧ dv = .bool d ∧ OwnI wr w.heap.size (.slice (some ⟨gO, 0, none⟩) P.length ko) L2 ∧ OwnI wr w.heap.size (.slice (some ⟨gE, 0, none⟩) P.length ke) (exL P S L2) ∧ OnWay P S W0 L2 ∧ Keeps (fun q => q = gO ∨ q = gE) w4 wr ∧ Below w.heap.size w wr ∧ SwOk P S L L2 d i) (fun _ iv _ => P.length - (intOf iv).toNat)
        case atStart => exact ⟨0, L, true, Nat.zero_le _, rfl, rfl, hoO, hoE, hway, hkp, hbw, .inl ⟨rfl, rfl, fun t ht => absurd ht (by omega)⟩⟩
        case round =>
          obtain ⟨i, L2, d, hi, rfl, rfl, hoO2, hoE2, hway2, hkp2, hbw2, hsw⟩ := hrel
          clear hoO hoE hkp hbw
          obtain ⟨wp, rfl⟩ : ∃ wo : World, wo = wr := ⟨_, rfl⟩
          by_cases hit : i < P.length
          · have hii : (i : Int) < (P.length : Int) := by omega
            have hi0 : (0 : Int) ≤ (i : Int) := Int.natCast_nonneg _
            have hEO : OwnI wp w.heap.size (.slice (some ⟨gE, 0, none⟩) (exL P S L2).length ke) (exL P S L2) := by rw [exL_len, hway2.1]; exact hoE2
            have dE := hEO.cell i (by rw [exL_len, hway2.1]; exact hit)
            clear hEO
            by_cases hneg : gI (exL P S L2) i < 0
            · have hE := exF_bd (P := P) (S := S) (A := fun i => gI L2 i) (b := 333849600000) h24 (fun i hi => hway2.small HC.out HU.out hi) hit
              rw [← exL_at HC.out hway2.1 hit] at hE
              have hh := hB_bd P S i h24
              have hbn := bhL_len P S i P.length
              have hbn : ((bhL P S P.length i).length : Int) = hB P S i := hbn
              have hle := bhL_le P S i P.length
              have hstb := Lib.hid (step_behind HC.out hway2.1 hit)
              have hsh := Lib.hid (exL_shift HC.out hway2.1 hit (upS (gI (exL P S L2) i) (hB P S i)))
              have hstep := Lib.hid (hway2.step HC.out hit hneg)
              have hfell := Lib.hid (hsw.fell HC.out HU.out hway2 hit hneg)
              have hll := Lib.hid hway2.1
              have hsm := Lib.hid (show ∀ k, -333849600000 ≤ gI L2 k ∧ gI L2 k ≤ 333849600000 from num_all (fun k hk => hway2.small HC.out HU.out (by have := hway2.1; omega)) (by omega) (by omega))
              have hsmE := Lib.hid (show ∀ k, -100000000000000000 ≤ gI (exL P S L2) k ∧ gI (exL P S L2) k ≤ 100000000000000000 from num_all (fun k hk => by
                have hk' : k < P.length := by rw [exL_len, hway2.1] at hk; exact hk
                have := exF_bd (P := P) (S := S) (A := fun i => gI L2 i) (b := 333849600000) h24 (fun i hi => hway2.small HC.out HU.out hi) hk'
                rw [← exL_at HC.out hway2.1 hk'] at this
                omega) (by omega) (by omega))
              have dB := HCB.out _ hkp2 i hit
              obtain ⟨av, kv, hVe⟩ := Own.form (HRB.out _ hkp2 i hit)
              rw [hVe] at dB
              have HVE := Lib.hid hVe
              clear hway2 hsw hVe
              rw [← hbn] at hh hstb hsh
              obtain ⟨q, hq⟩ : ∃ q, q = (bhL P S P.length i).length := ⟨_, rfl⟩
              rw [← hq] at dB hbn hh hstb hsh hle
              have HTD := Lib.hid (upS_tdiv hneg hh.1)
              have hub := upS_bd hneg hh.1
              have HQ := Lib.hid hq
              have HBN := Lib.hid hbn
              clear hq hbn
              obtain ⟨hE1, hE2⟩ := hE
              obtain ⟨hh1, hh2⟩ := hh
              obtain ⟨u1, u2⟩ := hub
              have hrowP : ∀ t, t < P.length → (∀ m, m < (gR (proxL P S) t).length → 0 ≤ gI (gR (proxL P S) t) m ∧ gI (gR (proxL P S) t) m < (P.length : Int)) ∧ (gR (proxL P S) t).length ≤ 400 := fun t ht => ⟨fun m hm => by have := hex.out.row t (by rw [prox_len]; exact ht) m hm; rw [hl] at this; exact this, hex.out.rowlen t (by rw [prox_len]; exact ht)⟩
              have HRP := Lib.hid hrowP
              clear hrowP
              generalize gI (exL P S L2) i = ex at dE hneg hE1 hE2 HTD u1 u2 hstb hsh
              have w1' : IntKind.i64.wrap (-ex) = -ex := IntWalk.i64_in _ (by omega)
              have w2' : IntKind.i64.wrap (1 + (q : Int)) = 1 + (q : Int) := IntWalk.i64_in _ (by omega)
              have w3' : IntKind.i64.wrap (-ex + (1 + (q : Int))) = -ex + (1 + (q : Int)) := IntWalk.i64_in _ (by omega)
              have w4' : IntKind.i64.wrap (-ex + (1 + (q : Int)) - 1) = -ex + (q : Int) := by
                have e : -ex + (1 + (q : Int)) - 1 = -ex + (q : Int) := by omega
                rw [e]
                exact IntWalk.i64_in _ (by omega)
              have w5' : ¬ (1 + (q : Int)) = 0 := by omega
              have w6' : IntKind.i64.wrap (Int.tdiv (-ex + (q : Int)) (1 + (q : Int))) = upS ex (q : Int) := by rw [HTD.out]; exact IntWalk.i64_in _ (by omega)
              clear HTD
              generalize upS ex (q : Int) = sv at u1 u2 w6' hstb hsh
              have s1 : sv ≤ 20000000000000 := by omega
              clear u2
              have w7' : IntKind.i64.wrap (-sv) = -sv := IntWalk.i64_in _ (by omega)
              have h1b := Lib.hid (show ∀ k, -30000000000000 ≤ gI (inc L2 (i : Int) sv) k ∧ gI (inc L2 (i : Int) sv) k ≤ 30000000000000 from fun k => by
                have := hsm.out k
                rw [gI_inc]
                split <;> omega)
              have h1l := Lib.hid (show (inc L2 (i : Int) sv).length = P.length by rw [inc_len]; exact hll.out)
              go_wp2_with fail
              refine (shift_c w _ (proxL P S) L2 (exL P S L2) gO ko gE ke P.length i sv _ h hbw2 hoO2 hoE2 hgne hll.out (by rw [exL_len]; exact hll.out) (prox_len _ _) (by omega) hit (HRP.out i hit).1 (HRP.out i hit).2 (by omega) (fun k => by have := hsm.out k; omega) hsmE.out).mono ?_
              rintro e w5 ⟨rfl, ho5, he5, hk5, hb5⟩
              rw [prox_row hit, hsh.out] at he5
              have hkp5 := hkp2.trans hk5
              clear hoO2 hoE2 hkp2 hbw2 dE dB hsh hk5
              have dB : w5.cell? ⟨w1.heap.size, i, none⟩ = some (.slice av q kv) := by rw [HCB.out _ hkp5 i hit, HVE.out, HQ.out]
              generalize inc L2 (i : Int) sv = L1 at ho5 he5 hstb h1b h1l
              go_wp2_with fail
              go_loopw [88] (fun mv wr => ∃ m : Nat, m ≤ q ∧ mv = .int .i64 m ∧ OwnI wr w.heap.size (.slice (some ⟨gO, 0, none⟩) P.length ko) (incTo (bhL P S P.length i) (-sv) L1 m) ∧ OwnI wr w.heap.size (.slice (some ⟨gE, 0, none⟩) P.length ke) (exL P S (incTo (bhL P S P.length i) (-sv) L1 m)) ∧ Keeps (fun q => q = gO ∨ q = gE) w4 wr ∧ Below w.heap.size w wr) (fun mv _ => q - (intOf mv).toNat)
              case atStart => exact ⟨0, Nat.zero_le _, rfl, ho5, he5, hkp5, hb5⟩
              case round =>
                obtain ⟨m, hm, rfl, ho6, he6, hkp6, hb6⟩ := hrel
                clear ho5 he5 hkp5 hb5 dB
                obtain ⟨ws, rfl⟩ : ∃ wo : World, wo = wr := ⟨_, rfl⟩
                by_cases hmq : m < q
                · have hmqi : (m : Int) < (q : Int) := by omega
                  have hB6 := HRB.out _ hkp6 i hit
                  rw [HVE.out] at hB6
                  obtain ⟨j, hj, hjP⟩ := bhL_mem P S i P.length m (by rw [← HQ.out]; exact hmq)
                  obtain ⟨gb, kb, hgb, hgb0, hgb1, hgb2, hgb3⟩ := Own.pos hB6 (by rw [← HQ.out]; omega)
                  injection hgb with hgba hgbb hgbc
                  subst hgba hgbc
                  have dm := hB6.cell m (by rw [← HQ.out]; exact hmq)
                  rw [hj] at dm
                  have HJ := Lib.hid hj
                  have hsq := Lib.hid (behind_small (P := P) (S := S) (i := i) (L := L1) (x := -sv) (b := 30000000000000) (by omega) h1b.out m)
                  have hlq : (incTo (bhL P S P.length i) (-sv) L1 m).length = P.length := by rw [incTo_len]; exact h1l.out
                  have HLQ := Lib.hid hlq
                  have hm24 : (m : Int) ≤ 24 := by omega
                  have hseq := Lib.hid (show ∀ k, -100000000000000000 ≤ gI (exL P S (incTo (bhL P S P.length i) (-sv) L1 m)) k ∧ gI (exL P S (incTo (bhL P S P.length i) (-sv) L1 m)) k ≤ 100000000000000000 from num_all (fun k hk => by
                    have hk' : k < P.length := by rw [exL_len, hlq] at hk; exact hk
                    have := exF_bd (P := P) (S := S) (A := fun t => gI (incTo (bhL P S P.length i) (-sv) L1 m) t) (b := 1000000000000000) h24 (fun t _ => by have := hsq.out t; omega) hk'
                    rw [← exL_at HC.out hlq hk'] at this
                    omega) (by omega) (by omega))
                  clear hgbb hB6 hj hlq
                  go_wp2_with fail
                  refine (shift_c w _ (proxL P S) _ _ gO ko gE ke P.length j (-sv) _ h hb6 ho6 he6 hgne HLQ.out (by rw [exL_len]; exact HLQ.out) (prox_len _ _) (by omega) hjP (HRP.out j hjP).1 (HRP.out j hjP).2 (by omega) (fun k => by have := hsq.out k; omega) hseq.out).mono ?_
                  rintro e w7 ⟨rfl, ho7, he7, hk7, hb7⟩
                  rw [prox_row hjP, exL_shift HC.out HLQ.out hjP] at he7
                  have e7 : inc (incTo (bhL P S P.length i) (-sv) L1 m) (j : Int) (-sv) = incTo (bhL P S P.length i) (-sv) L1 (m + 1) := by rw [incTo_succ, HJ.out]
                  rw [e7] at ho7 he7
                  have hkp7 := hkp6.trans hk7
                  clear ho6 he6 hkp6 hb6 dm e7 hk7
                  go_wp2
                  go_roundw
                  case rel => exact ⟨m + 1, by omega, by go_num, ho7, he7, hkp7, hb7⟩
                  case measure => simp [intOf]; omega
                · have hm' : m = q := by omega
                  subst hm'
                  rw [hstb.out] at ho6 he6
                  go_wp2
                  go_roundw
                  case rel => exact ⟨i + 1, _, false, by omega, by go_num, rfl, ho6, he6, hstep.out, hkp6, hb6, hfell.out⟩
                  case measure => simp [intOf]; omega
            · go_wp2
              go_roundw
              case rel => exact ⟨i + 1, L2, d, by omega, by go_num, rfl, hoO2, hoE2, hway2, hkp2, hbw2, hsw.next (by omega)⟩
              case measure => simp [intOf]; omega
          · have hi' : i = P.length := by omega
            subst hi'
            have HSW := Lib.hid hsw
            have HWAY := Lib.hid hway2
            clear hsw hway2 hway
            cases d
            · go_wp2
              go_roundw
              case rel => exact ⟨L2, hoO2, hoE2, HWAY.out, hkp2, hbw2⟩
              case measure =>
                rcases HSW.out with ⟨h1, _⟩ | ⟨_, h1⟩
                · cases h1
                · have e1 := rdL_eq hoO2.rd HWAY.out.1
                  show measN P S (fun i => gI (rdL wp (.slice (some ⟨gO, 0, none⟩) P.length ko) P.length) i) < measN P S (fun i => gI (rdL wq (.slice (some ⟨gO, 0, none⟩) P.length ko) P.length) i)
                  rw [e1, hmeq.out]
                  exact h1
            · go_wp2
              go_ret
              rcases HSW.out with ⟨_, h1, h2⟩ | ⟨h1, _⟩
              · subst h1
                rw [HWAY.out.done HC.out HU.out HL.out h2] at hoO2
                exact ⟨_, _, rfl, hoO2, hbw2⟩
              · cases h1
end Go.Proofs.Ytgjnllialhjhoaa
