/- Contract: impl.proximates. -/
import Derived.Test.YtiinceflafigeaaEuProx
import Derived.Test.YtiinceflafigeaaProx
import Derived.Test.YtiinceflafigeaaPushS
namespace Go.Proofs.Ytiinceflafigeaa
open Go.RowKit

theorem rowTo_len (M : List Int) (j : Nat) : ∀ n, (rowTo M j n).length ≤ n := by
  intro n
  induction n with
  | zero => simp [rowTo]
  | succ n ih =>
    cases h : pB M n j
    · rw [rowTo_no h]; omega
    · rw [rowTo_yes h, List.length_append]; simp; omega
/-- The rows while the point i is looked at, up to j. -/
def inR (M : List Int) (i j : Nat) : Nat → List Int := fun x => rowTo M x (if x < j then i + 1 else i)
theorem inR_start (M : List Int) (i x : Nat) : rowTo M x i = inR M i (i + 1) x := by
  unfold inR
  split
  · exact (rowTo_no (pB_no (by omega))).symm
  · rfl
theorem inR_step {M : List Int} {i j : Nat} (h : pB M i j = true) (x : Nat) : upd (inR M i j) j (rowTo M j i ++ [(i : Int)]) x = inR M i (j + 1) x := by
  unfold upd inR
  by_cases e : x = j
  · subst e; rw [if_pos rfl, if_pos (by omega), rowTo_yes h]
  · rw [if_neg e]
    by_cases e2 : x < j
    · rw [if_pos e2, if_pos (by omega)]
    · rw [if_neg e2, if_neg (by omega)]
theorem inR_at (M : List Int) (i j : Nat) : inR M i j j = rowTo M j i := by unfold inR; rw [if_neg (by omega)]
theorem inR_break {M : List Int} (h : Eu M) {i j : Nat} (hij : i < j) (hp : pB M i j = false) (x : Nat) (hx : x < M.length) : inR M i j x = rowTo M x (i + 1) := by
  unfold inR
  split
  · rfl
  · refine (rowTo_no ?_).symm
    cases c : pB M i x
    · rfl
    · have := pB_down h hx (by omega : i < j) (by omega : j ≤ x) c
      rw [hp] at this; exact absurd this (by simp)
theorem inR_end {M : List Int} {i : Nat} (x : Nat) (hx : x < M.length) : inR M i M.length x = rowTo M x (i + 1) := by
  unfold inR; rw [if_pos hx]
theorem psum_bd {M : List Int} (h : Eu M) (i j : Nat) (hj : j < M.length) (hl : M.length ≤ 400) : 0 ≤ psum M i j ∧ psum M i j ≤ 25600 := by
  unfold psum
  have := sumTo_bound (f := fun t => gI M (i + 1 + t)) (n := j - i) 0 64 (fun t ht => by have := h.pos (i + 1 + t) (by omega); omega)
  omega

set_option maxRecDepth 100000 in
set_option maxHeartbeats 4000000 in
theorem proximates_c (v : Value) (M : List Int) (w : World) (h : Rd w v M) (hE : Eu M) (hp : 0 < M.length) (hl : M.length ≤ 400) :
    Calls Try.prog 115 #[v] w (RetR w M.length (proxOf (parL M.length) (secM M))) := by
  obtain ⟨i0, hi, hz0, hz1, hz2⟩ := info_parts Try.infoI
  obtain ⟨j0, ji, jz0, jz1, jz2⟩ := info_parts Try.infoII
  obtain ⟨b, off, cap, rfl, hc1, hc2, hb, hc⟩ := h.cells hp
  go_enter Try.func115, Try.ntmps115
  go_wp2_with (at_make; refine wpList_make_full _ rfl (.tmp 8) (.tmp 8) 64 rfl w.heap.size 24 j0 (.slice none 0 0) 1 Try.underlying64 ji jz0 jz1 _ _ _ _ M.length rfl rfl rfl rfl ?c1 ?c2 ?c3 ?_)
  case c1 => rw [jz2]; omega
  case c2 => unfold maxLen; omega
  case c3 => simp
  intro w1 hown hgrow
  have hb1 : Below w.heap.size w w1 := (Below.refl _ _).grown hgrow (Nat.le_refl _) (by simp)
  have hR : Rows 2 w1 w.heap.size w.heap.size M.length (fun _ => .slice none 0 0) (fun _ => []) := by
    rw [toList_madeCells_one] at hown
    exact Rows.made hown (Nat.le_refl _) ((World.ownsRow.lt hown) _ rfl).2
  clear hown hgrow
  go_wp2_with fail
  go_loopw [4, 5, 6, 12] (fun _ _ _ iv wr => ∃ i : Nat, ∃ V, i ≤ M.length ∧ iv = .int .i64 i ∧ Rows 2 wr w.heap.size w.heap.size M.length V (fun x => rowTo M x i) ∧ Below w.heap.size w wr) (fun _ _ _ iv _ => M.length - (intOf iv).toNat)
  case atStart => exact ⟨0, _, Nat.zero_le _, rfl, hR, hb1⟩
  case round =>
    obtain ⟨i, V, hil, rfl, hrow, hbl⟩ := hrel
    clear hR hb1
    obtain ⟨wo, rfl⟩ : ∃ wo : World, wo = wr := ⟨_, rfl⟩
    have hi0 : (0 : Int) ≤ (i : Int) := Int.natCast_nonneg _
    by_cases hlt : i < M.length
    · have hii : (i : Int) < (M.length : Int) := by omega
      have hst := hrow.congr (fun x _ => inR_start M i x)
      have hps := psum_self M i
      have wi1 : IntKind.i64.wrap ((i : Int) + 1) = (i : Int) + 1 := IntWalk.i64_in _ (by omega)
      have HDI := Lib.hid (hc i hlt)
      clear hrow
      go_wp2_with fail
      go_loopw [5, 6] (fun sv jv wr => ∃ j : Nat, ∃ V, i < j ∧ j ≤ M.length ∧ jv = .int .i64 j ∧ sv = .int .i64 (psum M i (j - 1)) ∧ Rows 2 wr w.heap.size w.heap.size M.length V (inR M i j) ∧ Below w.heap.size w wr) (fun _ jv _ => M.length - (intOf jv).toNat)
      case atStart => exact ⟨i + 1, V, by omega, by omega, by go_num, by rw [Nat.add_sub_cancel, hps], hst, hbl⟩
      case round =>
        obtain ⟨j, V2, hij, hjl, rfl, rfl, hr2, hb2⟩ := hrel
        clear hst hbl
        obtain ⟨wi, rfl⟩ : ∃ wi : World, wi = wr := ⟨_, rfl⟩
        have hj0 : (0 : Int) ≤ (j : Int) := Int.natCast_nonneg _
        by_cases hjt : j < M.length
        · have hji : (j : Int) < (M.length : Int) := by omega
          obtain ⟨q, rfl⟩ : ∃ q, j = q + 1 := ⟨j - 1, by omega⟩
          have dj : wi.cell? ⟨b, off + (q + 1), none⟩ = some (.int .i64 (gI M (q + 1))) := by rw [hb2.cell (p := ⟨b, off + (q + 1), none⟩) hb]; exact hc _ hjt
          have di : wi.cell? ⟨b, off + i, none⟩ = some (.int .i64 (gI M i)) := by rw [hb2.cell (p := ⟨b, off + i, none⟩) hb]; exact HDI.out
          have hs := psum_succ M (i := i) (j := q) (by omega)
          have hsb := psum_bd hE i (q + 1) hjt hl
          have hsq := psum_bd hE i q (by omega) hl
          have hmi := hE.pos i hlt
          have hmj := hE.pos (q + 1) hjt
          have f5 : (0 : Int) ≤ (q : Int) + 1 := by omega
          have f7 : ((q : Int) + 1).toNat = q + 1 := by omega
          have f8 : (q : Int) + 1 < (M.length : Int) := by omega
          have e0 : q + 1 - 1 = q := by omega
          rw [e0]
          have hss : psum M i q + gI M (q + 1) = psum M i (q + 1) := hs.symm
          have ws : IntKind.i64.wrap (psum M i (q + 1)) = psum M i (q + 1) := IntWalk.i64_in _ (by omega)
          cases hpb : pB M i (q + 1)
          · have hgt : gI M i < psum M i (q + 1) := by
              apply Int.not_le.1
              intro hle
              rw [pB_iff.2 ⟨hij, hle⟩] at hpb
              exact absurd hpb (by simp)
            have hfin := hr2.congr (fun x hx => inR_break hE hij hpb x hx)
            have HF := Lib.hid hfin
            clear hfin hr2 hs hpb e0
            generalize psum M i (q + 1) = s2 at *
            generalize psum M i q = s1 at *
            generalize gI M (q + 1) = x1 at *
            generalize gI M i = x0 at *
            go_wp2
            go_roundw
            case rel => exact ⟨i + 1, V2, by omega, by go_num, HF.out, hb2⟩
            case measure => simp [intOf]; omega
          · have hle := (pB_iff.1 hpb).2
            have hng : ¬ gI M i < psum M i (q + 1) := by omega
            have hO := hr2.row (q + 1) hjt
            rw [inR_at] at hO
            have dV := hr2.cell (q + 1) hjt
            have fV := hr2.free (q + 1)
            have hself := hr2.self (q + 1) hjt
            have hlr := rowTo_len M (q + 1) i
            have hglt := hr2.lt
            have hsz := hb2.size
            have HP := Lib.hid (fun x => inR_step hpb x)
            have HSS := Lib.hid hs
            obtain ⟨au, ku, hVe⟩ := hO.form
            have HR2 := Lib.hid hr2
            rw [hVe] at hO dV hself
            have hlr2 : (rowTo M (q + 1) i).length ≤ 1000000000000 := by omega
            generalize hrt : rowTo M (q + 1) i = L at *
            clear hr2 hs hpb e0 hlr
            generalize hs2 : psum M i (q + 1) = s2 at *
            have HS2 := Lib.hid hs2
            clear hs2
            generalize psum M i q = s1 at *
            generalize gI M (q + 1) = x1 at *
            generalize gI M i = x0 at *
            go_wp2_with (at_builtin; refine wpList_pushL rfl (.tmp 40) (.tmp 42) 24 rfl w.heap.size 2 i0 Try.underlying24 hi hz0 hz1 hz2 (.slice au L.length ku) L (i : Int) rfl hO rfl hlr2 hsz ?_; intro g3 c3 w2 hown' hkp hlies; have d2 : w2.cell? ⟨w.heap.size, q + 1, none⟩ = some (.slice au L.length ku) := (hkp.cell (p := ⟨w.heap.size, q + 1, none⟩) hglt hself).trans dV; have f2 : w2.frozen? ⟨w.heap.size, q + 1, none⟩ = false := (hkp.frozen (p := ⟨w.heap.size, q + 1, none⟩) hglt hself).trans fV)
            have hkp2 : Keeps (fun k => (V2 (q + 1)).ownBlock = some k) wi w2 := by rw [hVe]; exact hkp
            have hlies2 : (V2 (q + 1)).ownBlock = some g3 ∨ wi.heap.size ≤ g3 := by rw [hVe]; exact hlies
            have hput := HR2.out.put hjt hown' hkp2 hlies2
            have hfin := hput.congr (fun x _ => HP.out x)
            have hb3 := (hb2.trans (hkp.below hsz (fun g hg => (hO.block g hg).1))).setCell (p := ⟨w.heap.size, q + 1, none⟩) (Nat.le_refl _) (.slice (some ⟨g3, 0, none⟩) (L.length + 1) c3)
            have HF := Lib.hid hfin
            clear hput hkp2 hlies2 hlies hfin hkp hown' d2 f2
            go_wp2
            go_roundw
            case rel => exact ⟨q + 1 + 1, _, by omega, by omega, by go_num, by rw [Nat.add_sub_cancel, HS2.out], HF.out, hb3⟩
            case measure => simp [intOf]; omega
        · have hje : j = M.length := by omega
          subst hje
          have hfin := hr2.congr (fun x hx => inR_end x hx)
          have HF := Lib.hid hfin
          clear hfin hr2
          go_wp2
          go_roundw
          case rel => exact ⟨i + 1, V2, by omega, by go_num, HF.out, hb2⟩
          case measure => simp [intOf]; omega
    · have hie : i = M.length := by omega
      subst hie
      have hfin := hrow.congr (fun x hx => rowTo_prox hE hx (Nat.le_refl _))
      have HF := Lib.hid hfin
      clear hfin hrow
      go_wp2
      go_ret
      exact ⟨_, _, rfl, HF.out, hbl⟩
end Go.Proofs.Ytiinceflafigeaa
