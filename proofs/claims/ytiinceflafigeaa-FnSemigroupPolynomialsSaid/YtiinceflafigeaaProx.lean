/- Contracts: impl.clusterProximates. -/
import Derived.Test.YtiinceflafigeaaPath
import Derived.Test.YtiinceflafigeaaOrdPure
import Derived.Test.YtiinceflafigeaaRowL
import Derived.Deep.RegionLaw
import Derived.Deep.DeepCutAuto
namespace Go.Proofs.Ytiinceflafigeaa
open Go.RowKit

theorem Try.infoII : (Try.prog.info? 24).map (fun i => (i.zero, i.size, i.bytes)) = some (some (.slice none 0 0), 1, 24) := by kernel_rfl

/-- What the rows are after k rounds. -/
def proxTo (P S : List Int) (k : Nat) : Nat → List Int := fun i => if i < k then proxOf P S i else []

/-- A list of lists that is new. -/
def RetR (w : World) (n : Nat) (R : Nat → List Int) (e : Ending) (w' : World) : Prop :=
  ∃ g V, e = .returned (.slice (some ⟨g, 0, none⟩) n n) ∧ Rows 2 w' w.heap.size g n V R ∧ Below w.heap.size w w'

set_option maxRecDepth 100000 in
set_option maxHeartbeats 4000000 in
theorem clusterProximates_c (p s q : Value) (P S W : List Int) (w : World) (hp : Rd w p P) (hs : Rd w s S) (hq : Rd w q W) (hl : S.length = P.length) (h0 : 0 < P.length) (h24 : P.length ≤ 24) :
    Calls Try.prog 168 #[.agg #[p, s, q]] w (RetR w P.length (proxOf P S)) := by
  obtain ⟨i0, hi, hz0, hz1, hz2⟩ := info_parts Try.infoI
  obtain ⟨j0, ji, jz0, jz1, jz2⟩ := info_parts Try.infoII
  obtain ⟨bp, op, kp, rfl, hpc1, hpc2, hpb, hpc⟩ := hp.cells h0
  obtain ⟨bs, os, ks, rfl, hsc1, hsc2, hsb, hsc⟩ := hs.cells (by omega)
  obtain ⟨aq, kq, rfl⟩ := hq.len0
  have hl1 : P.length ≤ S.length := by omega
  have hl2 : S.length ≤ P.length := by omega
  clear hl
  have hx := Boxed.start w 40 #[.slice (some ⟨bp, op, none⟩) P.length kp, .slice (some ⟨bs, os, none⟩) S.length ks, .slice aq W.length kq]
  go_enter Try.func168, Try.ntmps168
  go_wp2_with (at_make; refine wpList_make_full _ rfl (.tmp 7) (.tmp 7) 64 rfl (w.heap.size + 1) 24 j0 (.slice none 0 0) 1 Try.underlying64 ji jz0 jz1 _ _ _ _ P.length rfl rfl rfl rfl ?c1 ?c2 ?c3 ?_)
  case c1 => rw [jz2]; omega
  case c2 => unfold maxLen; omega
  case c3 => simp
  intro w1 hown hgrow
  have hx1 : Boxed w w1 40 #[.slice (some ⟨bp, op, none⟩) P.length kp, .slice (some ⟨bs, os, none⟩) S.length ks, .slice aq W.length kq] := by
    refine hx.trans ((Below.refl _ _).grown hgrow (Nat.le_refl _) (by simp))
  have hR : Rows 2 w1 (w.heap.size + 1) (w.heap.size + 1) P.length (fun _ => .slice none 0 0) (fun _ => []) := by
    rw [toList_madeCells_one] at hown
    exact Rows.made hown (Nat.le_refl _) ((World.ownsRow.lt hown) _ rfl).2
  clear hown hgrow hx
  go_wp2
  go_loopw [4] (fun i wr => ∃ k : Nat, ∃ V, 1 ≤ k ∧ k ≤ P.length ∧ i = .int .i64 k ∧ Rows 2 wr (w.heap.size + 1) (w.heap.size + 1) P.length V (proxTo P S k) ∧ Boxed w wr 40 #[.slice (some ⟨bp, op, none⟩) P.length kp, .slice (some ⟨bs, os, none⟩) S.length ks, .slice aq W.length kq]) (fun i _ => P.length - (intOf i).toNat)
  case atStart => exact ⟨1, _, Nat.le_refl _, by omega, rfl, hR.congr (fun i _ => by unfold proxTo; split <;> simp [proxOf]; omega), hx1⟩
  case round =>
    obtain ⟨k, V, hk1, hk, rfl, hrow, hbx⟩ := hrel
    clear hR hx1
    obtain ⟨wo, rfl⟩ : ∃ wo : World, wo = wr := ⟨_, rfl⟩
    by_cases hlt : k < P.length
    · have hi1 : (k : Int) < (S.length : Int) := by omega
      have hi2 : (k : Int) < (P.length : Int) := by omega
      have h00 : (0 : Int) ≤ (k : Int) := Int.natCast_nonneg _
      have c0 := hbx.cell 0
      have c1 := hbx.cell 1
      have dS : wo.cell? ⟨bs, os + k, none⟩ = some (.int .i64 (gI S k)) := by rw [hbx.below.cell (p := ⟨bs, os + k, none⟩) hsb]; exact hsc k (by omega)
      go_upto_if 20 with (fail)
      go_cut [4] from 15 to 34 (fun s wc => s = .int .i64 k ∧ ∃ V', Rows 2 wc (w.heap.size + 1) (w.heap.size + 1) P.length V' (upd (proxTo P S k) k (secL S k)) ∧ Boxed w wc 40 #[.slice (some ⟨bp, op, none⟩) P.length kp, .slice (some ⟨bs, os, none⟩) S.length ks, .slice aq W.length kq])
      case first =>
        by_cases hge : 0 ≤ gI S k
        · have dV := hrow.cell k hlt
          have hsz := hbx.size
          have hbp : bp < wo.heap.size := by omega
          have hbs : bs < wo.heap.size := by omega
          have hgo := hrow.lt
          have hal : Below wo.heap.size wo ((wo.alloc (.cells #[.int .i64 (gI S k)] 2)).drew) := ((Below.refl _ _).alloc (Nat.le_refl _) _).drew
          have hrow' := hrow.below hal
          have hbx' := hbx.trans hal
          go_wp2_with fail
          go_region_law (refine step_push rfl (.tmp 26) (.tmp 32) 24 rfl (w.heap.size + 1) 2 i0 Try.underlying24 hi hz0 hz1 hz2 (V k) (proxTo P S k k) (gI S k) wo.heap.size rfl (hrow'.row k hlt) rfl (Blk.new wo _ _) (by simp [proxTo]) (by simp; omega) ?_; intro g cap w2 h1 h2 h3 h4; have d2 : w2.cell? ⟨w.heap.size + 1, k, none⟩ = some (V k) := (h2.cell (p := ⟨w.heap.size + 1, k, none⟩) hrow'.lt (hrow.self k hlt)).trans (hrow'.cell k hlt); have f2 : w2.frozen? ⟨w.heap.size + 1, k, none⟩ = false := (h2.frozen (p := ⟨w.heap.size + 1, k, none⟩) hrow'.lt (hrow.self k hlt)).trans (hrow'.free k))
          all_goals
            have hput := hrow'.put hlt h1 h2 (h3.imp id (fun h => by omega))
            have hbx2 := hbx'.wrote ((h2.mono (fun k hk => ((hrow.row _ hlt).block k hk).1)).setCell (p := ⟨w.heap.size + 1, k, none⟩) (Nat.le_refl (w.heap.size + 1)) (.slice (some ⟨g, 0, none⟩) ((proxTo P S k k).length + 1) cap))
            go_wp2
            go_meet
            refine ⟨rfl, _, hput.congr (fun i _ => ?_), hbx2⟩
            unfold upd
            split
            · rw [secL_yes hge]; simp [proxTo]
            · rfl
        · go_wp2
          go_meet
          refine ⟨rfl, _, hrow.congr (fun i _ => ?_), hbx⟩
          unfold upd
          split
          · rename_i h; rw [secL_no (by omega), h]; simp [proxTo]
          · rfl
      case rest =>
        obtain ⟨rfl, V', hrow2, hbx2⟩ := hcut
        clear hrow hbx c0 c1 dS
        obtain ⟨wo2, rfl⟩ : ∃ wo : World, wo = wc := ⟨_, rfl⟩
        have c0 := hbx2.cell 0
        have dP : wo2.cell? ⟨bp, op + k, none⟩ = some (.int .i64 (gI P k)) := by rw [hbx2.below.cell (p := ⟨bp, op + k, none⟩) hpb]; exact hpc k hlt
        have dV := hrow2.cell k hlt
        have hsz := hbx2.size
        have hbp : bp < wo2.heap.size := by omega
        have hgo := hrow2.lt
        have hal : Below wo2.heap.size wo2 ((wo2.alloc (.cells #[.int .i64 (gI P k)] 2)).drew) := ((Below.refl _ _).alloc (Nat.le_refl _) _).drew
        have hrow' := hrow2.below hal
        have hbx' := hbx2.trans hal
        have hlen := secL_len S k
        have hO := hrow'.row k hlt
        rw [upd_at] at hO
        go_wp2_with fail
        go_region_law (refine step_push rfl (.tmp 40) (.tmp 46) 24 rfl (w.heap.size + 1) 2 i0 Try.underlying24 hi hz0 hz1 hz2 (V' k) (secL S k) (gI P k) wo2.heap.size rfl hO rfl (Blk.new wo2 _ _) (by omega) (by simp; omega) ?_; intro g cap w2 h1 h2 h3 h4; have d2 : w2.cell? ⟨w.heap.size + 1, k, none⟩ = some (V' k) := (h2.cell (p := ⟨w.heap.size + 1, k, none⟩) hrow'.lt (hrow2.self k hlt)).trans (hrow'.cell k hlt); have f2 : w2.frozen? ⟨w.heap.size + 1, k, none⟩ = false := (h2.frozen (p := ⟨w.heap.size + 1, k, none⟩) hrow'.lt (hrow2.self k hlt)).trans (hrow'.free k))
        all_goals
          have hput := hrow'.put hlt h1 h2 (h3.imp id (fun h => by omega))
          have hbx3 := hbx'.wrote ((h2.mono (fun k hk => ((hrow2.row _ hlt).block k hk).1)).setCell (p := ⟨w.heap.size + 1, k, none⟩) (Nat.le_refl (w.heap.size + 1)) (.slice (some ⟨g, 0, none⟩) ((secL S k).length + 1) cap))
          have hfin := hput.congr (R' := proxTo P S (k + 1)) (fun i _ => by
            unfold upd proxTo
            by_cases e : i = k
            · subst e; simp [proxOf]; omega
            · simp only [e, if_false]
              by_cases e2 : i < k
              · rw [if_pos e2, if_pos (by omega)]
              · rw [if_neg e2, if_neg (by omega)])
          clear hput hO d2 f2 h1 h2 h3 h4
          go_wp2
          go_roundw
          case rel => exact ⟨k + 1, _, by omega, by omega, by go_num, hfin, hbx3⟩
          case measure => simp [intOf]; omega
    · go_wp2
      have hk' : k = P.length := by omega
      subst hk'
      go_ret
      exact ⟨_, _, rfl, (hrow.base_le (by omega)).congr (fun i hi => by simp [proxTo, hi]), hbx.below⟩
end Go.Proofs.Ytiinceflafigeaa
