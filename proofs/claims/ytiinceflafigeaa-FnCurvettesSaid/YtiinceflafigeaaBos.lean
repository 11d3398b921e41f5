/- Contract: impl.branchOfSequence on the multiplicities of a curvette. -/
import Derived.Test.YtiinceflafigeaaCurV
import Derived.Test.YtiinceflafigeaaBegin
import Derived.Test.YtiinceflafigeaaRunOf
import Derived.Test.YtiinceflafigeaaL03Is
import Derived.Deep.DeepCutAuto
namespace Go.Proofs.Ytiinceflafigeaa
open Go.RowKit

/-- A branch and a truth. -/
def RetBB (w : World) (xs : List Int) (b : Bool) (e : Ending) (w' : World) : Prop :=
  ∃ a k, e = .returned (.tuple #[.agg #[.slice a xs.length k], .bool b]) ∧ OwnI w' w.heap.size (.slice a xs.length k) xs ∧ Below w.heap.size w w'
theorem Rd.drop {w : World} {b off cap : Nat} {xs : List Int} (h : Rd w (.slice (some ⟨b, off, none⟩) xs.length cap) xs) {k : Nat} (hk : k ≤ xs.length) : Rd w (.slice (some ⟨b, off + k, none⟩) (xs.length - k) (cap - k)) (xs.drop k) := by
  obtain ⟨a1, c1, he, h1, h2, h3⟩ := h
  injection he with he1 he2 he3
  subst he1 he3
  refine ⟨some ⟨b, off + k, none⟩, cap - k, by simp, by simp; omega, by omega, fun hx => ?_⟩
  obtain ⟨b2, off2, e1, e2, e3⟩ := h3 (by intro e; rw [e] at hx; simp at hx)
  injection e1 with e1
  injection e1 with e4 e5 _
  subst e4 e5
  refine ⟨b, off + k, rfl, e2, fun i hi => ?_⟩
  rw [List.length_drop] at hi
  rw [Nat.add_assoc, e3 (k + i) (by omega), gI_drop]
theorem runOf_nil (a b : Int) (w : World) (ha : 0 ≤ a) (ha2 : a ≤ 100000) (hb : 0 ≤ b) (hb2 : b ≤ 1000) :
    Calls Try.prog 198 #[.slice none 0 0, .int .i64 a, .int .i64 b] w (RetI w (flat (stB a b))) :=
  (runOf_c (.slice none 0 0) [] a b w.heap.size w (own_nil _ _ _) (Nat.le_refl _) (by simp) ha ha2 hb hb2).mono fun e w' ⟨v', he, ho, hk, _⟩ => by
    rw [List.nil_append] at ho
    subst he
    exact retI_mk ho (hk.below (Nat.le_refl _) (fun k hk => by simp [Value.ownBlock] at hk))

/-- Where the reader stands after t runs. -/
def AtT (M T : List Int) (t p : Nat) : Prop := p ≤ M.length ∧ (t + 1 < T.length → (flat (pre T t)).length = p) ∧ (T.length = t + 1 → ∀ i, p ≤ i → i < M.length → gI M i = 1)
/-- The sum of the runs. -/
def lastK (T : List Int) (t : Nat) : Int := if t = 0 then 0 else gI T t
theorem lastK_succ (T : List Int) (t : Nat) : lastK T t + kI T t = gI T (t + 1) := by
  unfold lastK
  cases t with
  | zero => rw [if_pos rfl]; show 0 + gI T 1 = gI T 1; omega
  | succ t => rw [if_neg (by omega)]; show gI T (t + 1) + (gI T (t + 2) - gI T (t + 1)) = gI T (t + 2); omega
theorem lastK_pos (T : List Int) (t : Nat) : lastK T (t + 1) = gI T (t + 1) := by unfold lastK; rw [if_neg (by omega)]
theorem run_pos {e k : Int} (h : RunT e k) : 0 < (flat (stB k e)).length := by
  obtain ⟨Y2, hY2⟩ := flat_head (a := e) (b := k % e) h.r0 (by have := h.r1; omega)
  rw [run_flat h, hY2]; simp; omega
theorem atT_zero {M T : List Int} (h1 : T.length ≠ 1) : AtT M T 0 0 := ⟨Nat.zero_le _, fun _ => rfl, fun e => by omega⟩
theorem atT_one {M T : List Int} {z : Nat} (h : CurT M T z) (h1 : T.length = 1) (hM : 0 < M.length) : AtT M T 0 1 :=
  ⟨hM, fun e => by omega, fun _ i h2 h3 => (h.ones (p := 0) (by rw [h1]; rfl)).2 i (Nat.zero_le _) h3⟩
theorem atT_succ {M T : List Int} {z : Nat} (h : CurT M T z) (h64 : gI M 0 ≤ 64) {t p : Nat} (ht : t + 1 < T.length) (ha : AtT M T t p) : AtT M T (t + 1) (p + (flat (stB (kI T t) (eI T t))).length) := by
  have hs := h.see h64 ht (ha.2.1 ht)
  refine ⟨hs.2.2.2.1, fun _ => hs.2.2.2.2.2, fun e i h1 h2 => ?_⟩
  refine (h.ones (p := p + (flat (stB (kI T t) (eI T t))).length) (by rw [e, Nat.add_sub_cancel]; exact hs.2.2.2.2.2)).2 i h1 h2
theorem take_snoc_gI {T : List Int} {t : Nat} (h : t + 1 < T.length) : T.take (t + 2) = T.take (t + 1) ++ [gI T (t + 1)] := by
  rw [List.take_succ_eq_append_getElem h, gI_lt h]
/-- The list from p on begins with the run. -/
theorem drop_run {M T : List Int} {z : Nat} (h : CurT M T z) (h64 : gI M 0 ≤ 64) {t p : Nat} (ht : t + 1 < T.length) (ha : AtT M T t p) : ∃ ys, M.drop p = flat (stB (kI T t) (eI T t)) ++ ys := by
  have hs := h.see h64 ht (ha.2.1 ht)
  refine ⟨M.drop (p + (flat (stB (kI T t) (eI T t))).length), ?_⟩
  apply gI_ext
  · simp; omega
  · intro i hi
    simp at hi
    by_cases c : i < (flat (stB (kI T t) (eI T t))).length
    · rw [gI_drop, gI_app_lt c]; exact hs.2.2.2.2.1 i c
    · rw [gI_app_ge (by omega), gI_drop, gI_drop]; congr 1; omega

set_option maxRecDepth 100000 in
set_option maxHeartbeats 8000000 in
theorem branchOfSequence_c (v : Value) (M T : List Int) (z : Nat) (fb : Bool) (w : World) (h : Rd w v M) (hT : CurT M T z) (h64 : gI M 0 ≤ 64) (hl : M.length ≤ 400) (hp : 0 < M.length) (hfb : braB T = fb) :
    Calls Try.prog 195 #[v] w (RetBB w T fb) := by
  obtain ⟨i0, hi, hz0, hz1, hz2⟩ := info_parts Try.infoI
  obtain ⟨b, off, cap, rfl, hc1, hc2, hb, hc⟩ := h.cells hp
  have h0 : w.cell? ⟨b, off, none⟩ = some (.int .i64 (gI M 0)) := hc 0 hp
  have h00 := h0
  have fr1 : Below w.heap.size w (w.alloc (.cells #[.slice none 0 0] 26)) := (Below.refl _ _).alloc (Nat.le_refl _) _
  rw [← fr1.cell (p := ⟨b, off, none⟩) hb] at h0
  have hi0 : (0 : Int) < (M.length : Int) := by omega
  have hf := hT.first
  rw [← hf] at h0 h00 h64
  have hb0 := hT.bd 0 hT.len
  have hTl := hT.len
  have ht1 : T.take 1 = [gI T 0] := by
    have := List.take_succ_eq_append_getElem hT.len
    rw [gI_lt hT.len]; simpa using this
  obtain ⟨W, hW⟩ : ∃ W : World, W = ((w.alloc (.cells #[.slice none 0 0] 26)).alloc (.cells #[.int .i64 (gI T 0)] 2)).alloc (.cells #[.slice (some ⟨w.heap.size + 1, 0, none⟩) 1 1] 26) := ⟨_, rfl⟩
  have fr2 : Below w.heap.size w W := by rw [hW]; exact (((Below.refl _ _).alloc (Nat.le_refl _) _).alloc (by simp) _).alloc (by simp; omega) _
  have B2 : Blk W (w.heap.size + 2) 26 #[.slice (some ⟨w.heap.size + 1, 0, none⟩) 1 1] := by rw [hW]; exact Blk.new' (by simp)
  have O2 : OwnI W (w.heap.size + 1) (.slice (some ⟨w.heap.size + 1, 0, none⟩) 1 1) (T.take 1) := by
    rw [ht1, hW]
    have := (own_one (e := 2) (w.alloc (.cells #[.slice none 0 0] 26)) (w.heap.size + 1) (by simp) (gI T 0))
    rw [show (w.alloc (.cells #[.slice none 0 0] 26)).heap.size = w.heap.size + 1 by simp] at this
    exact this.below ((Below.refl _ _).alloc (Nat.le_refl _) _) (Nat.le_refl _)
  have D2 : Blk W w.heap.size 26 #[.slice none 0 0] := by rw [hW]; exact ((Blk.new w _ _).alloc _).alloc _
  have h02 : W.cell? ⟨b, off, none⟩ = some (.int .i64 (gI T 0)) := by rw [fr2.cell (p := ⟨b, off, none⟩) hb]; exact h00
  have hp0 : ∃ p : Nat, (if T.length = 1 then 1 else 0) = p ∧ AtT M T 0 p := by
    by_cases c : T.length = 1
    · exact ⟨1, by rw [if_pos c], atT_one hT c hp⟩
    · exact ⟨0, by rw [if_neg c], atT_zero c⟩
  have he1 : (T.length = 1 → gI T 0 = 1) ∧ (T.length ≠ 1 → gI T 0 ≠ 1) := by
    constructor
    · intro e; have := hT.last; rw [e] at this; exact this
    · intro e
      have h1 := (hT.run (t := 0) (by rw [← hf]; exact h64) (by omega)).e0
      have : eI T 0 = gI T 0 := rfl
      omega
  have HE1 := Lib.hid he1
  obtain ⟨p0, hp1, hp2⟩ := hp0
  have HP1 := Lib.hid hp1
  have HP2 := Lib.hid hp2
  have HFB := Lib.hid hfb
  have HT := Lib.hid hT
  have HF0 := Lib.hid hf
  clear hp1 hp2 he1 hfb hT hf ht1
  have HX : Hid (eI T 0 = gI T 0) := Lib.hid rfl
  have HW := Lib.hid hW
  generalize hx0 : gI T 0 = x0 at *
  clear hx0
  go_enter Try.func195, Try.ntmps195
  rw [hW] at h02
  clear hW
  go_upto_if 22 with fail
  go_cut [7] from 21 to 22 (fun s7 wc => s7 = .int .i64 (p0 : Int) ∧ wc = W)
  case first =>
    by_cases c : T.length = 1
    · have e1 := HE1.out.1 c
      have e2 := HP1.out
      rw [if_pos c] at e2
      subst e1 e2
      go_wp2
      go_meet
      exact ⟨rfl, HW.out.symm⟩
    · have e1 : (x0 == 1) = false := by simpa using HE1.out.2 c
      have e2 := HP1.out
      rw [if_neg c] at e2
      subst e2
      rw [e1]
      go_wp2
      go_meet
      exact ⟨rfl, HW.out.symm⟩
  case rest =>
    obtain ⟨rfl, rfl⟩ := hcut
    clear h02 h0
    generalize hwc : wc = wc' at *
    clear hwc
    go_wp2_with fail
    go_loopw [5, 6, 7, 8, 9, 10] (fun ev lv av _ _ _ wr => ∃ t p g c : Nat, t < T.length ∧ ev = .int .i64 (eI T t) ∧ lv = .int .i64 (lastK T t) ∧ av = .int .i64 (p : Int) ∧ AtT M T t p ∧ Blk wr (w.heap.size + 2) 26 #[.slice (some ⟨g, 0, none⟩) (t + 1) c] ∧ OwnI wr (w.heap.size + 1) (.slice (some ⟨g, 0, none⟩) (t + 1) c) (T.take (t + 1)) ∧ g ≠ w.heap.size + 2 ∧ Blk wr w.heap.size 26 #[.slice none 0 0] ∧ Below w.heap.size w wr) (fun ev _ _ _ _ _ _ => (intOf ev).toNat)
    case atStart => exact ⟨0, p0, w.heap.size + 1, 1, hTl, by rw [HX.out], rfl, rfl, HP2.out, B2, O2, by omega, D2, fr2⟩
    case round =>
      obtain ⟨t, p, g, c, htl, rfl, rfl, rfl, hat, B3, O3, hg, D3, fr3⟩ := hrel
      clear B2 O2 D2 fr2
      obtain ⟨wo, rfl⟩ : ∃ wo : World, wo = wr := ⟨_, rfl⟩
      have h64' : gI M 0 ≤ 64 := by rw [← HF0.out]; exact h64
      by_cases ht : t + 1 < T.length
      · have hr := HT.out.run h64' ht
        have hk := HT.out.kbd h64' hl ht
        have hs := HT.out.see h64' ht (hat.2.1 ht)
        have HAT := Lib.hid (atT_succ HT.out h64' ht hat)
        have HDR := Lib.hid (drop_run HT.out h64' ht hat)
        have hLS := Lib.hid (lastK_succ T t)
        have hLP := Lib.hid (lastK_pos T t)
        have hKG := Lib.hid (kI_gcd T t)
        have HTS := Lib.hid (take_snoc_gI ht)
        have hbt := HT.out.bd t (by omega)
        have hbt1 := HT.out.bd (t + 1) ht
        have hlen7 := HT.out.len7
        have hlast : 0 ≤ lastK T t ∧ lastK T t ≤ 1000000 := by unfold lastK; split <;> omega
        have hp' := hat.1
        have HFL := Lib.hid hs.2.2.2.1
        have HEX := Lib.hid (show kI T t / eI T t * eI T t + kI T t % eI T t = kI T t from hk.2.2.2)
        have hfl0 := run_pos hr
        have hr0 := hr.r0
        have hr1 := hr.r1
        have he2 := hr.e0
        have he64 := hr.e64
        have hk1 := hr.k1
        have hs1 := Lib.hid hs.1
        have hs2 := Lib.hid hs.2.1
        have hs3 := hs.2.2.1
        have hq0 := hk.1
        have hq1 := hk.2.1
        have hk2 := hk.2.2.1
        have HRD := Lib.hid (h.below fr3 (Nat.le_refl _))
        have hcw : ∀ i, i < M.length → wo.cell? ⟨b, off + i, none⟩ = some (.int .i64 (gI M i)) := fun i hi => by rw [fr3.cell (p := ⟨b, off + i, none⟩) hb]; exact hc i hi
        have HCW := Lib.hid hcw
        obtain ⟨q, hq⟩ := Int.eq_ofNat_of_zero_le hq0
        rw [hq, Int.toNat_natCast] at hs1 hs2 hs3
        rw [hq] at HEX hq1
        clear hs hk hr hat hcw hbt hq0
        generalize hgl : lastK T t = la at *
        generalize hgk : kI T t = k at *
        generalize hge : eI T t = e at *
        generalize hgr : k % e = r at *
        clear hq
        go_wp2_with fail
        go_loop [8, 9] (fun kv iv => ∃ cn : Nat, cn ≤ q ∧ kv = .int .i64 ((cn : Int) * e) ∧ iv = .int .i64 ((p : Int) + (cn : Int))) (fun _ iv => p + q - (intOf iv).toNat)
        case atStart => exact ⟨0, Nat.zero_le _, by simp, by simp⟩
        case round =>
          obtain ⟨cn, hcn, rfl, rfl⟩ := hrel
          have hcd : wo.cell? ⟨b, off + (p + cn), none⟩ = some (.int .i64 (gI M (p + cn))) := HCW.out (p + cn) (by omega)
          have g1 : (p : Int) + (cn : Int) < (M.length : Int) := by omega
          have g2 : (0 : Int) ≤ (p : Int) + (cn : Int) := by omega
          have g3 : ((p : Int) + (cn : Int)).toNat = p + cn := by omega
          have hce0 : 0 ≤ (cn : Int) * e := Int.mul_nonneg (by omega) (by omega)
          have hce1 : (cn : Int) * e ≤ 400 * 64 := Int.mul_le_mul (by omega) he64 (by omega) (by omega)
          by_cases hcq : cn < q
          · rw [hs1.out cn hcq] at hcd
            have HE : Hid (((cn + 1 : Nat) : Int) * e = (cn : Int) * e + e) := Lib.hid (by push_cast; rw [Int.add_mul]; omega)
            generalize (cn : Int) * e = ce at *
            go_wp2
            go_round
            case rel => exact ⟨cn + 1, by omega, by rw [HE.out], by congr 1⟩
            case measure => simp [intOf]; omega
          · have hcq' : cn = q := by omega
            subst hcq'
            rw [hs2.out] at hcd
            have HEX' := HEX.out
            generalize (cn : Int) * e = ce at *
            have g4 : (r == e) = false := by simp; omega
            have g5 : ¬ (p : Int) + (cn : Int) = (M.length : Int) := by omega
            have g6 : ((p : Int) + (cn : Int) == (M.length : Int)) = false := by simpa using g5
            have g7 : ce + r = k := HEX'
            have hG7 := Lib.hid g7
            have g8 : ¬ r > e := by omega
            have g9 : ¬ e < r := by omega
            clear HEX' g7
            go_wp2_with fail
            rw [hG7.out]
            refine (runOf_nil k e _ (by omega) (by omega) (by omega) (by omega)).mono ?_
            rintro ee w1 ⟨ar, kr, rfl, hOr, hb1⟩
            have B4 := B3.stays hb1
            have D4 := D3.stays hb1
            have O4 := O3.below hb1 (Nat.le_refl _)
            have fr4 := below_step fr3 hb1
            have hsz1 := hb1.size
            have hlr := Lib.hid hOr
            obtain ⟨ys, hys⟩ := HDR.out
            have hrd4 := Rd.drop (k := p) (h.below fr4 (Nat.le_refl _)) (by omega)
            have hfl := hfl0
            have hln : M.length - p = (flat (stB k e) ++ ys).length := by rw [← hys, List.length_drop]
            rw [hys] at hrd4
            have hcall := begins_c b (off + p) (cap - p) (.slice ar (flat (stB k e)).length kr) (flat (stB k e)) ys w1 hfl (by rw [← hln]; exact hrd4) hOr.rd
            rw [← hln] at hcall
            have hCall := Lib.hid hcall
            clear hcall hln hrd4 hys hOr
            generalize hF : flat (stB k e) = F at *
            have hp1 : (p : Int) ≤ (M.length : Int) := by omega
            have hp2 : (0 : Int) ≤ (p : Int) := by omega
            have hp3 : (p : Int) ≤ (cap : Int) := by omega
            have hp4 : ¬ p = cap := by omega
            have hp5 : (p : Int) < (cap : Int) := by omega
            have hp6 : ¬ cap - p = 0 := by omega
            go_wp2_with fail
            refine hCall.out.mono ?_
            rintro ee w2 ⟨rfl, hd2⟩
            have hb2 := hd2.below w1.heap.size
            have B5 := B4.stays hb2
            have D5 := D4.stays hb2
            have O5 := O4.below hb2 (Nat.le_refl _)
            have fr5 := below_step fr4 hb2
            have hsz2 := hb2.size
            have dB := B5.cell 0
            have fB := B5.free 0
            have hlB := B5.lt
            have hgs := (O5.block g rfl).1
            have hF2 := HFL.out
            have g10 : IntKind.i64.wrap ((p : Int) + (F.length : Int)) = (p : Int) + (F.length : Int) := IntWalk.i64_in _ (by omega)
            have g11 : IntKind.i64.wrap (la + k) = la + k := IntWalk.i64_in _ (by omega)
            have hsz5 : w.heap.size + 1 ≤ w2.heap.size := by have := D5.lt; omega
            have htk : (T.take (t + 1)).length = t + 1 := by rw [List.length_take]; omega
            have HTK := Lib.hid htk
            have O6 : OwnI w2 (w.heap.size + 1) (.slice (some ⟨g, 0, none⟩) (T.take (t + 1)).length c) (T.take (t + 1)) := by rw [htk]; exact O5
            clear hCall B4 D4 O4 fr4 hF2 B3 D3 O3 fr3 hcd htk
            generalize hTX : T.take (t + 1) = X at *
            go_wp2_with (at_builtin; refine wpList_pushL rfl (.tmp 80) (.tmp 82) 24 rfl (w.heap.size + 1) 2 i0 Try.underlying24 hi hz0 hz1 hz2 (.slice (some ⟨g, 0, none⟩) (t + 1) c) X (la + k) rfl O5 rfl (by have := HTK.out; omega) hsz5 ?_; intro g2 c2 w6 hown' hkp hlies; have d3 : w6.cell? ⟨w.heap.size + 2, 0, none⟩ = some (.slice (some ⟨g, 0, none⟩) (t + 1) c) := (hkp.cell (p := ⟨w.heap.size + 2, 0, none⟩) hlB (by simp [Value.ownBlock]; omega)).trans dB; have f3 : w6.frozen? ⟨w.heap.size + 2, 0, none⟩ = false := (hkp.frozen (p := ⟨w.heap.size + 2, 0, none⟩) hlB (by simp [Value.ownBlock]; omega)).trans fB)
            have hlies' : g = g2 ∨ w2.heap.size ≤ g2 := hlies.imp (fun h => by simpa [Value.ownBlock] using h) id
            have hkg : Keeps (fun q => q = g) w2 w6 := hkp.mono (fun q hq => by simp [Value.ownBlock] at hq; exact hq.symm)
            rw [HTK.out] at hown' ⊢
            have B6 := (B5.keeps hkg (fun h => hg h.symm)).set 0 (.slice (some ⟨g2, 0, none⟩) (t + 1 + 1) c2)
            have hgD : ¬ w.heap.size = g := by omega
            have D6 := (D5.keeps hkg hgD).other (g' := w.heap.size + 2) (by omega) 0 (.slice (some ⟨g2, 0, none⟩) (t + 1 + 1) c2)
            have O7 := hown'.other (g := w.heap.size + 2) (fun q hq => by simp [Value.ownBlock] at hq; omega) 0 (.slice (some ⟨g2, 0, none⟩) (t + 1 + 1) c2)
            have fr6 := (fr5.trans (hkg.below (by omega) (fun q hq => by omega))).setCell (p := ⟨w.heap.size + 2, 0, none⟩) (by show w.heap.size ≤ w.heap.size + 2; omega) (.slice (some ⟨g2, 0, none⟩) (t + 1 + 1) c2)
            have O8 : OwnI (w6.setCell ⟨w.heap.size + 2, 0, none⟩ (.slice (some ⟨g2, 0, none⟩) (t + 1 + 1) c2)) (w.heap.size + 1) (.slice (some ⟨g2, 0, none⟩) (t + 1 + 1) c2) (T.take (t + 2)) := by rw [HTS.out, ← hLS.out]; exact O7
            clear hkp hlies hkg B5 D5 O5 O6 hown' fr5 O7 d3 f3
            generalize w6.setCell ⟨w.heap.size + 2, 0, none⟩ (.slice (some ⟨g2, 0, none⟩) (t + 1 + 1) c2) = w7 at *
            refine (divisor_c e k _ (by omega) (by omega) (by omega) (by omega)).mono ?_
            rintro ee w8 ⟨rfl, hd8⟩
            have hb8 := hd8.below w7.heap.size
            have B8 := B6.stays hb8
            have D8 := D6.stays hb8
            have O9 := O8.below hb8 (Nat.le_refl _)
            have fr8 := below_step fr6 hb8
            have hKG' := hKG.out
            rw [gcdI_sym] at hKG'
            rw [hKG', hLS.out]
            have hgl1 : eI T (t + 1) < e := by have h1 := HT.out.fall t ht; rw [hge] at h1; exact h1
            have hpos1 : 0 < eI T (t + 1) := eI_pos (by have := HT.out.bd 0 hTl; omega) _
            have HLP := Lib.hid hLP.out
            clear B6 D6 O8 fr6 hKG' hb8 hTX
            go_wp2
            go_roundw
            case rel => exact ⟨t + 1, p + F.length, g2, c2, ht, rfl, by rw [HLP.out], by go_num, HAT.out, B8, O9, by omega, D8, fr8⟩
            case measure => simp [intOf]; omega
      · have hte : T.length = t + 1 := by omega
        have hone := hat.2.2 hte
        have he : eI T t = 1 := by have h1 := HT.out.last; rw [hte, Nat.add_sub_cancel] at h1; exact h1
        rw [he]
        have hp' := hat.1
        have HON := Lib.hid hone
        have hX : T.take (t + 1) = T := by rw [← hte, List.take_length]
        rw [hX] at O3
        have O3' : OwnI wo (w.heap.size + 1) (.slice (some ⟨g, 0, none⟩) T.length c) T := by rw [hte]; exact O3
        have HRT := Lib.hid O3'
        have HTE := Lib.hid hte
        have HCW := Lib.hid (show ∀ i, i < M.length → wo.cell? ⟨b, off + i, none⟩ = some (.int .i64 (gI M i)) from fun i hi => by rw [fr3.cell (p := ⟨b, off + i, none⟩) hb]; exact hc i hi)
        clear hat hone he hX O3' hte
        have hp1 : (p : Int) ≤ (M.length : Int) := by omega
        have hp2 : (0 : Int) ≤ (p : Int) := by omega
        have hp3 : (p : Int) ≤ (cap : Int) := by omega
        have hm0 : M.length - p ≤ 400 := by omega
        have dB := B3.cell 0
        have dD := D3.cell 0
        have fD := D3.free 0
        generalize lastK T t = la at *
        by_cases hpc : p = cap
        · have hz : M.length - p = 0 := by omega
          have hz2 : M.length = p := by omega
          go_wp2_with fail
          refine wp_loop_rounds 1 ?_
          rw [rounds_succ]
          go_wp2_with fail
          have hst1 : Below wo.heap.size wo wo.drew := (Below.refl _ _).drew
          have hnD : ∀ q, (Value.slice (some ⟨g, 0, none⟩) T.length c).ownBlock = some q → q ≠ w.heap.size := fun q hq => by have := (HRT.out.block q hq).1; omega
          have RA : Rd wo.drew (.slice (some ⟨g, 0, none⟩) T.length c) T := (HRT.out.below hst1 (Nat.le_refl _)).rd
          have RB : Rd ((wo.setCell ⟨w.heap.size, 0, none⟩ (.slice (some ⟨g, 0, none⟩) T.length c)).drew) (.slice (some ⟨g, 0, none⟩) T.length c) T := ((HRT.out.other (g := w.heap.size) hnD 0 (.slice (some ⟨g, 0, none⟩) T.length c)).below (show Below (wo.setCell ⟨w.heap.size, 0, none⟩ (.slice (some ⟨g, 0, none⟩) T.length c)).heap.size _ ((wo.setCell ⟨w.heap.size, 0, none⟩ (.slice (some ⟨g, 0, none⟩) T.length c)).drew) from (Below.refl _ _).drew) (Nat.le_refl _)).rd
          have B5 : Blk (wo.setCell ⟨w.heap.size, 0, none⟩ (.slice (some ⟨g, 0, none⟩) T.length c)) (w.heap.size + 2) 26 #[.slice (some ⟨g, 0, none⟩) T.length c] := by have := B3.other (g' := w.heap.size) (by omega) 0 (.slice (some ⟨g, 0, none⟩) T.length c); rw [← HTE.out] at this; exact this
          have dB5 := B5.cell 0
          rw [← HTE.out] at dB
          go_region_with (first
            | (go_at_call 119; (with_reducible refine (implIsBranch_c _ T _ RA).mono ?_); rintro ee w1 ⟨rfl, hq⟩; have hsz1 := hq.size; have B6 := (B3.stays hst1).stays hq; have D6 := (D3.stays hst1).stays hq; have O6 := (HRT.out.below hst1 (Nat.le_refl _)).below hq (Nat.le_refl _); have fr6 := below_step (below_step fr3 hst1) hq; rw [← HTE.out] at B6; have d6 := B6.cell 0; have f6 := D6.free 0; have e6 := D6.cell 0; have hfin : RetBB w T (braB T) (.returned (.tuple #[.agg #[.slice (some ⟨g, 0, none⟩) T.length c], .bool (braB T)])) (w1.setCell ⟨w.heap.size, 0, none⟩ (.slice (some ⟨g, 0, none⟩) T.length c)) := ⟨_, _, rfl, (O6.other (g := w.heap.size) hnD 0 (.slice (some ⟨g, 0, none⟩) T.length c)).base_le (by omega), fr6.setCell (p := ⟨w.heap.size, 0, none⟩) (Nat.le_refl _) (.slice (some ⟨g, 0, none⟩) T.length c)⟩; have q6 := (D6.set 0 (.slice (some ⟨g, 0, none⟩) T.length c)).cell 0)
            | (go_at_call 119; (with_reducible refine (implIsBranch_c _ T _ RB).mono ?_); rintro ee w1 ⟨rfl, hq⟩; have hsz1 := hq.size; have q6 := ((D3.set 0 (.slice (some ⟨g, 0, none⟩) T.length c)).stays hq).cell 0; have O6 := ((HRT.out.other (g := w.heap.size) hnD 0 (.slice (some ⟨g, 0, none⟩) T.length c)).below (show Below (wo.setCell ⟨w.heap.size, 0, none⟩ (.slice (some ⟨g, 0, none⟩) T.length c)).heap.size _ ((wo.setCell ⟨w.heap.size, 0, none⟩ (.slice (some ⟨g, 0, none⟩) T.length c)).drew) from (Below.refl _ _).drew) (Nat.le_refl _)).below hq (Nat.le_refl _); have fr6 := below_step ((fr3.setCell (p := ⟨w.heap.size, 0, none⟩) (Nat.le_refl _) (.slice (some ⟨g, 0, none⟩) T.length c)).drew) hq; have hfin : RetBB w T (braB T) (.returned (.tuple #[.agg #[.slice (some ⟨g, 0, none⟩) T.length c], .bool (braB T)])) w1 := ⟨_, _, rfl, O6.base_le (by omega), fr6⟩))
          all_goals
            have hfin' := hfin
            clear hfin
            go_wp2
            refine bodyPost_ret (v := .tuple #[.agg #[.slice (some ⟨g, 0, none⟩) T.length c], .bool (braB T)]) (by simp [results, Try.results195, go_sem, q6]) rfl (by rw [← HFB.out]; exact hfin')
        · have hpc1 : (p : Int) < (cap : Int) := by omega
          have hpc2 : ¬ cap - p = 0 := by omega
          go_wp2_with fail
          go_loop [12, 92] (fun _ iv => ∃ j : Nat, j ≤ M.length - p ∧ iv = .int .i64 (j : Int)) (fun _ iv => M.length - p - (intOf iv).toNat)
          case atStart => exact ⟨0, Nat.zero_le _, rfl⟩
          case round =>
            obtain ⟨j, hj, rfl⟩ := hrel
            by_cases hjl : j < M.length - p
            · have hcd : wo.cell? ⟨b, off + p + j, none⟩ = some (.int .i64 1) := by rw [Nat.add_assoc, HCW.out (p + j) (by omega), HON.out (p + j) (by omega) (by omega)]
              have hji : (j : Int) < ((M.length - p : Nat) : Int) := by omega
              go_wp2
              go_round
              case rel => exact ⟨j + 1, by omega, by go_num⟩
              case measure => simp [intOf]; omega
            · have hje : j = M.length - p := by omega
              subst hje
              go_wp2_with fail
              have hst1 : Below wo.heap.size wo wo.drew := (Below.refl _ _).drew
              have hnD : ∀ q, (Value.slice (some ⟨g, 0, none⟩) T.length c).ownBlock = some q → q ≠ w.heap.size := fun q hq => by have := (HRT.out.block q hq).1; omega
              have RA : Rd wo.drew (.slice (some ⟨g, 0, none⟩) T.length c) T := (HRT.out.below hst1 (Nat.le_refl _)).rd
              have RB : Rd ((wo.setCell ⟨w.heap.size, 0, none⟩ (.slice (some ⟨g, 0, none⟩) T.length c)).drew) (.slice (some ⟨g, 0, none⟩) T.length c) T := ((HRT.out.other (g := w.heap.size) hnD 0 (.slice (some ⟨g, 0, none⟩) T.length c)).below (show Below (wo.setCell ⟨w.heap.size, 0, none⟩ (.slice (some ⟨g, 0, none⟩) T.length c)).heap.size _ ((wo.setCell ⟨w.heap.size, 0, none⟩ (.slice (some ⟨g, 0, none⟩) T.length c)).drew) from (Below.refl _ _).drew) (Nat.le_refl _)).rd
              have B5 : Blk (wo.setCell ⟨w.heap.size, 0, none⟩ (.slice (some ⟨g, 0, none⟩) T.length c)) (w.heap.size + 2) 26 #[.slice (some ⟨g, 0, none⟩) T.length c] := by have := B3.other (g' := w.heap.size) (by omega) 0 (.slice (some ⟨g, 0, none⟩) T.length c); rw [← HTE.out] at this; exact this
              have dB5 := B5.cell 0
              rw [← HTE.out] at dB
              go_region_with (first
                | (go_at_call 119; (with_reducible refine (implIsBranch_c _ T _ RA).mono ?_); rintro ee w1 ⟨rfl, hq⟩; have hsz1 := hq.size; have B6 := (B3.stays hst1).stays hq; have D6 := (D3.stays hst1).stays hq; have O6 := (HRT.out.below hst1 (Nat.le_refl _)).below hq (Nat.le_refl _); have fr6 := below_step (below_step fr3 hst1) hq; rw [← HTE.out] at B6; have d6 := B6.cell 0; have f6 := D6.free 0; have e6 := D6.cell 0; have hfin : RetBB w T (braB T) (.returned (.tuple #[.agg #[.slice (some ⟨g, 0, none⟩) T.length c], .bool (braB T)])) (w1.setCell ⟨w.heap.size, 0, none⟩ (.slice (some ⟨g, 0, none⟩) T.length c)) := ⟨_, _, rfl, (O6.other (g := w.heap.size) hnD 0 (.slice (some ⟨g, 0, none⟩) T.length c)).base_le (by omega), fr6.setCell (p := ⟨w.heap.size, 0, none⟩) (Nat.le_refl _) (.slice (some ⟨g, 0, none⟩) T.length c)⟩; have q6 := (D6.set 0 (.slice (some ⟨g, 0, none⟩) T.length c)).cell 0)
                | (go_at_call 119; (with_reducible refine (implIsBranch_c _ T _ RB).mono ?_); rintro ee w1 ⟨rfl, hq⟩; have hsz1 := hq.size; have q6 := ((D3.set 0 (.slice (some ⟨g, 0, none⟩) T.length c)).stays hq).cell 0; have O6 := ((HRT.out.other (g := w.heap.size) hnD 0 (.slice (some ⟨g, 0, none⟩) T.length c)).below (show Below (wo.setCell ⟨w.heap.size, 0, none⟩ (.slice (some ⟨g, 0, none⟩) T.length c)).heap.size _ ((wo.setCell ⟨w.heap.size, 0, none⟩ (.slice (some ⟨g, 0, none⟩) T.length c)).drew) from (Below.refl _ _).drew) (Nat.le_refl _)).below hq (Nat.le_refl _); have fr6 := below_step ((fr3.setCell (p := ⟨w.heap.size, 0, none⟩) (Nat.le_refl _) (.slice (some ⟨g, 0, none⟩) T.length c)).drew) hq; have hfin : RetBB w T (braB T) (.returned (.tuple #[.agg #[.slice (some ⟨g, 0, none⟩) T.length c], .bool (braB T)])) w1 := ⟨_, _, rfl, O6.base_le (by omega), fr6⟩))
              all_goals
                have hfin' := hfin
                clear hfin
                go_wp2
                refine bodyPost_ret (v := .tuple #[.agg #[.slice (some ⟨g, 0, none⟩) T.length c], .bool (braB T)]) (by simp [results, Try.results195, go_sem, q6]) rfl (by rw [← HFB.out]; exact hfin')
end Go.Proofs.Ytiinceflafigeaa
