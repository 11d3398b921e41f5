/- Contracts: impl.square; a number of a row is stored. -/
import Derived.Test.YtiinceflafigeaaProx
import Derived.Test.YtiinceflafigeaaMatL
import Derived.Test.YtiinceflafigeaaOrdPure
namespace Go.Proofs.Ytiinceflafigeaa
open Go.RowKit

/-- A number of a row is stored. -/
theorem Rows.setRow {e : TypeId} {w : World} {base g n i gi cap : Nat} {V : Nat → Value} {R : Nat → List Int} (h : Rows e w base g n V R) (hi : i < n) (hV : V i = .slice (some ⟨gi, 0, none⟩) (R i).length cap) (j : Nat) (x : Int) :
    Rows e (w.setCell ⟨gi, j, none⟩ (.int .i64 x)) base g n V (upd R i ((R i).set j x)) := by
  have hob : (V i).ownBlock = some gi := by rw [hV]; rfl
  have hne : gi ≠ g := fun e1 => h.self i hi (by rw [hob, e1])
  have hrow : Own e w base (.slice (some ⟨gi, 0, none⟩) (R i).length cap) (R i) := hV ▸ h.row i hi
  refine ⟨h.lo, by simpa using h.lt, fun a ha => ?_, fun a => ?_, fun a ha => ?_, h.apart, h.self⟩
  · rw [World.cell?_setCell_other _ _ _ _ (by intro e1; injection e1 with e2; exact hne e2)]; exact h.cell a ha
  · rw [World.frozen?_setCell]; exact h.free a
  · by_cases e1 : a = i
    · subst e1
      rw [upd_at]
      have := hrow.set j x
      rw [← hV] at this
      exact this
    · rw [upd_ne _ _ e1]
      exact (h.row a ha).other (fun k hk e2 => h.apart a i ha hi e1 k hk (by rw [hob, e2])) j _
/-- Where a row that is not empty lies. -/
theorem Rows.pos {e : TypeId} {w : World} {base g n i : Nat} {V : Nat → Value} {R : Nat → List Int} (h : Rows e w base g n V R) (hi : i < n) (hp : 0 < (R i).length) :
    ∃ gi cap, V i = .slice (some ⟨gi, 0, none⟩) (R i).length cap ∧ base ≤ gi ∧ gi < w.heap.size ∧ (R i).length ≤ cap ∧ cap ≤ 9223372036854775807 := Own.pos (h.row i hi) hp

def zeroL (n : Nat) : List Int := List.replicate n 0
@[simp] theorem zeroL_len (n : Nat) : (zeroL n).length = n := by simp [zeroL]
theorem gI_zeroL (n i : Nat) : gI (zeroL n) i = 0 := by
  by_cases h : i < n
  · exact gI_rep h
  · simp [zeroL, gI, List.getD, List.getElem?_eq_none (show (List.replicate n (0 : Int)).length ≤ i by simp; omega)]
theorem own_made {e : TypeId} {w : World} {base n g : Nat} (h : w.ownsRow base e 1 (.slice (some ⟨g, 0, none⟩) n n) n (List.replicate n (.int .i64 0))) : Own e w base (.slice (some ⟨g, 0, none⟩) n n) (zeroL n) := by
  unfold Own zeroL
  rw [List.length_replicate, List.map_replicate]
  exact h

set_option maxHeartbeats 1000000 in
theorem square_c (n : Nat) (w : World) (h0 : 0 < n) (hn : n ≤ 1000) :
    Calls Try.prog 219 #[.int .i64 (n : Int)] w (RetR w n (fun _ => zeroL n)) := by
  obtain ⟨i0, hi, hz0, hz1, hz2⟩ := info_parts Try.infoI
  obtain ⟨j0, ji, jz0, jz1, jz2⟩ := info_parts Try.infoII
  go_enter Try.func219, Try.ntmps219
  go_wp2_with (at_make; refine wpList_make_full _ rfl (.tmp 5) (.tmp 5) 64 rfl w.heap.size 24 j0 (.slice none 0 0) 1 Try.underlying64 ji jz0 jz1 _ _ _ _ n rfl rfl rfl rfl ?c1 ?c2 ?c3 ?_)
  case c1 => rw [jz2]; omega
  case c2 => unfold maxLen; omega
  case c3 => simp
  intro w1 hown hgrow
  have hb1 : Below w.heap.size w w1 := (Below.refl _ _).grown hgrow (Nat.le_refl _) (by simp)
  have hR : Rows 2 w1 w.heap.size w.heap.size n (fun _ => .slice none 0 0) (fun _ => []) := by
    rw [toList_madeCells_one] at hown
    exact Rows.made hown (Nat.le_refl _) ((World.ownsRow.lt hown) _ rfl).2
  clear hown hgrow
  go_wp2
  go_loopw [4, 9] (fun _ i wr => ∃ k : Nat, ∃ V, k ≤ n ∧ i = .int .i64 k ∧ Rows 2 wr w.heap.size w.heap.size n V (fun i => if i < k then zeroL n else []) ∧ Below w.heap.size w wr) (fun _ i _ => n - (intOf i).toNat)
  case atStart => exact ⟨0, _, Nat.zero_le _, rfl, hR.congr (fun i _ => by simp), hb1⟩
  case round =>
    obtain ⟨k, V, hk, rfl, hrow, hbl⟩ := hrel
    clear hR hb1
    obtain ⟨wo, rfl⟩ : ∃ wo : World, wo = wr := ⟨_, rfl⟩
    by_cases hlt : k < n
    · have hgl := hrow.lt
      go_wp2_with (at_make; refine wpList_make_full _ rfl (.tmp 14) (.tmp 14) 24 rfl w.heap.size 2 i0 (.int .i64 0) 1 Try.underlying24 hi hz0 hz1 _ _ _ _ n rfl rfl rfl rfl ?c1 ?c2 ?c3 ?_)
      case c1 => rw [hz2]; omega
      case c2 => unfold maxLen; omega
      case c3 => exact hbl.size
      intro w2 hown2 hgrow2
      have hk2 : Keeps (fun b => (V k).ownBlock = some b) wo w2 := (Keeps.of_grown hgrow2).mono (fun b hb => by simp at hb)
      have hb2 : Below wo.heap.size wo w2 := (Below.refl _ _).grown hgrow2 (Nat.le_refl _) (by simp)
      rw [toList_madeCells_one] at hown2
      have ho2 := own_made hown2
      have hput := hrow.put hlt ho2 hk2 (.inr (Nat.le_refl _))
      have hfin := hput.congr (R' := fun i => if i < k + 1 then zeroL n else []) (fun i _ => by
        unfold upd
        by_cases e : i = k
        · subst e; simp
        · simp only [e, if_false]
          by_cases e2 : i < k
          · rw [if_pos e2, if_pos (by omega)]
          · rw [if_neg e2, if_neg (by omega)])
      have dc := (hrow.below hb2).cell k hlt
      have df := (hrow.below hb2).free k
      have hbl2 := (below_step hbl hb2).setCell (p := ⟨w.heap.size, k, none⟩) (Nat.le_refl _) (.slice (some ⟨wo.heap.size, 0, none⟩) n n)
      clear hown2 hgrow2 hput ho2 hk2 hb2
      go_wp2
      go_roundw
      case rel => exact ⟨k + 1, _, by omega, by go_num, hfin, hbl2⟩
      case measure => simp [intOf]; omega
    · go_wp2
      have hk' : k = n := by omega
      subst hk'
      go_ret
      exact ⟨_, _, rfl, hrow.congr (fun i hi => by simp [hi]), hbl⟩
end Go.Proofs.Ytiinceflafigeaa
