/- Contracts: impl.numbersOf, impl.ParseBranch. -/
import Derived.Test.YtglghdkjppcedaaDoorPart3
import Derived.Test.YtglghdkjppcedaaDoorPart5
import Derived.Test.YtglghdkjppcedaaDoorPart6
namespace Go.Proofs.YtglghdkjppcedaaDoor
open Go.RowKit

/-- 'append(s, t...)', both slices the call's own: where the result lies. -/
theorem wpList_extendL {P : Program} {w : World} {ops : Array Oper} {rest : List Oper} {o : Oper} {a : Act} {Q : Exit → Act → World → Prop} (hgd : o.guard = none) (s x : Operand) (t : TypeId)
    (ho : o.op = .call { callee := .builtin .append, args := #[s, x], argTypes := #[t, t] })
    (base base' : Nat) (e : TypeId) (i : TypeInfo) (ht : P.underlying t = some (.slice e)) (hi : P.info? e = some i) (hz : i.zero = some (.int .i64 0)) (hsize : i.size = 1) (hby : i.bytes = 8)
    (v u : Value) (xs ys : List Int) (n : Nat) (hn : (xs ++ ys).length = n) (hs : a.eval s = v) (hown : Own e w base v xs) (hx : a.eval x = u) (hu : Own e w base' u ys) (hne : (u = .slice none 0 0 ∧ ys = []) ∨ 0 < ys.length)
    (hlen : xs.length + ys.length ≤ 1000000000000) (hbase : base ≤ w.heap.size)
    (h : ∀ a5 cap w', Own e w' base (.slice a5 n cap) (xs ++ ys) → Keeps (fun k => v.ownBlock = some k) w w' → (∀ q, (Value.slice a5 n cap).ownBlock = some q → v.ownBlock = some q ∨ w.heap.size ≤ q) → wpList P ops Q rest (a.put o.dst (.slice a5 n cap)) w') :
    wpList P ops Q (o :: rest) a w := by
  rcases hne with ⟨rfl, rfl⟩ | hp
  · obtain ⟨a5, cap, rfl⟩ := hown.form
    rw [List.append_nil] at hn
    refine wpList_append_own_none hgd s x t ho base e i 1 ht hi (.slice a5 xs.length cap) xs.length (xs.map (Value.int .i64)) hs hown hx ?_
    rw [hn] at hown ⊢
    exact h a5 cap w (by rw [List.append_nil]; exact hown) (Keeps.refl _ _) (fun q hq => .inl (by rw [hn]; exact hq))
  · obtain ⟨g, c, rfl⟩ : ∃ g c, u = .slice (some ⟨g, 0, none⟩) ys.length c := by
      rcases hu.shape with ⟨_, rfl⟩ | ⟨g, c, e, _⟩
      · simp at hp
      · exact ⟨g, c, e⟩
    refine wpList_append_lies _ hgd s x t ho base e i (.int .i64 0) 1 8 ht hi hz hsize hby rfl (by decide) v xs.length (xs.map (Value.int .i64)) hs hown ⟨g, 0, none⟩ ys.length c (ys.map (Value.int .i64)) hx (by simp) ?_ ?_ hp ?_ ?_ hbase _ rfl ?_
    · intro j y hj
      have hjl : j < ys.length := by
        have := (List.getElem?_eq_some_iff.1 hj).1
        simpa using this
      have hy : y = .int .i64 (gI ys j) := by
        rw [List.getElem?_map, gI_some hjl] at hj
        simpa using hj.symm
      rw [Addr.add_lit, Nat.zero_add, hu.cell j hjl, hy]
    · intro y hy; simp at hy; obtain ⟨n, _, rfl⟩ := hy; rfl
    · unfold maxLen; omega
    · omega
    · intro g2 cap w' ho' hg hl _
      rw [List.length_append] at hn
      rw [hn] at ho' ⊢
      refine h (some ⟨g2, 0, none⟩) cap w' ?_ (Keeps.of_grown hg) (fun q hq => ?_)
      · unfold Own
        rw [List.length_append, List.map_append, hn]
        exact ho'
      · have hq' : g2 = q := Option.some.inj hq
        rcases hl with hl | hl
        · exact .inl (by rw [hl, hq'])
        · exact .inr (by omega)

/-- The numbers that words say. -/
def nbV (t : List UInt8) : List Int := (splitL 44 t).map (fun x => (valN x : Int))
/-- The numbers of a text, and whether all were read. -/
def RetNs (w : World) (t : List UInt8) (e : Ending) (w' : World) : Prop := ∃ (a : Option Addr) (n k : Nat) (L : List Int), e = .returned (.tuple #[.slice a n k, .bool ((splitL 44 t).all numB)]) ∧ L.length = n ∧ ((splitL 44 t).all numB = true → L = nbV t) ∧ OwnI w' w.heap.size (.slice a n k) L ∧ n ≤ t.length + 1 ∧ ((Value.slice a n k = .slice none 0 0 ∧ L = []) ∨ 0 < L.length) ∧ Below w.heap.size w w'
theorem all_no {l : List (List UInt8)} {j : Nat} (hj : j < l.length) (h : numB (gT l j) = false) : l.all numB = false := by
  cases c : l.all numB
  · rfl
  · have := List.all_eq_true.1 c _ (List.getElem_mem hj)
    rw [← gT_lt hj, h] at this
    cases this
theorem all_yes {l : List (List UInt8)} (h : ∀ i, i < l.length → numB (gT l i) = true) : l.all numB = true := by
  refine List.all_eq_true.2 fun x hx => ?_
  obtain ⟨i, hi, rfl⟩ := List.getElem_of_mem hx
  rw [← gT_lt hi]
  exact h i hi
theorem nbV_step {t : List UInt8} {j : Nat} (hj : j < (splitL 44 t).length) : (nbV t).take (j + 1) = (nbV t).take j ++ [(valN (gT (splitL 44 t) j) : Int)] := by
  unfold nbV
  rw [List.take_succ_eq_append_getElem (by simpa using hj), List.getElem_map, gT_lt hj]
set_option maxRecDepth 100000 in
set_option maxHeartbeats 4000000 in
theorem numbersOf_c (s : ByteArray) (w : World) (hs : s.size ≤ 137438953472) :
    Calls Tryd.prog 29 #[.string s, .int .u8 44] w (RetNs w (lB s)) := by
  obtain ⟨i0, hi, hz0, hz1, hz2⟩ := info_parts Tryd.infoI
  have hO := own_empty w w.heap.size (Nat.le_refl _)
  have hB : Below w.heap.size w (w.alloc (.cells #[] 2)) := (Below.refl _ _).alloc (Nat.le_refl _) _
  have hs1 : (w.alloc (.cells #[] 2)).heap.size = w.heap.size + 1 := by simp
  go_enter Tryd.func29, Tryd.ntmps29
  go_wp2_with fail
  generalize w.alloc (.cells #[] 2) = w0 at *
  refine (wordsOf_c s 44 _ hs).mono ?_
  rintro e w1 ⟨a, k, ss, rfl, hrd, hsp, hnew, hb⟩
  have hO1 := hO.below hb (Nat.le_refl _)
  have hB1 := below_step hB hb
  have HSP := Lib.hid hsp
  have hls : ss.length ≤ 137438953473 := by
    have h1 := congrArg List.length HSP.out
    have h2 := spl_size 44 _ (lB s) (Nat.le_refl _)
    rw [List.length_map] at h1
    rw [lB_len] at h2
    omega
  have hpos : 0 < ss.length := by
    have h1 := congrArg List.length HSP.out
    have h2 := List.length_pos_iff.2 (spl_ne 44 (lB s))
    rw [List.length_map] at h1
    omega
  obtain ⟨bS, oS, cS, he, hbS, hcS⟩ := hrd.cells hpos
  injection he with e1 _ e3
  subst e1 e3
  have hnb : w.heap.size < bS := by have := hnew bS rfl; omega
  have HCS := Lib.hid hcS
  have HLEN := Lib.hid (show (splitL 44 (lB s)).length = ss.length by rw [← HSP.out]; simp)
  have HLL := Lib.hid (show ss.length ≤ (lB s).length + 1 by rw [← HLEN.out]; exact spl_size 44 _ (lB s) (Nat.le_refl _))
  clear hcS hrd hnew hO hB hb hsp hs1
  go_wp2_with fail
  go_loopw [6, 16] (fun lv iv wr => ∃ (j : Nat) (ao : Option Addr) (ko : Nat), j ≤ ss.length ∧ iv = .int .i64 (j : Int) ∧ lv = .slice ao j ko ∧ Hid (∀ i, i < j → numB (gT (splitL 44 (lB s)) i) = true) ∧ OwnI wr w.heap.size (.slice ao j ko) ((nbV (lB s)).take j) ∧ Hid (((nbV (lB s)).take j).length = j) ∧ (∀ q, (Value.slice ao j ko).ownBlock = some q → q ≠ bS) ∧ Below w.heap.size w wr ∧ (∀ i, i < ss.length → wr.cell? ⟨bS, oS + i, none⟩ = some (.string (gS ss i))) ∧ bS < wr.heap.size) (fun _ iv _ => ss.length - (intOf iv).toNat)
  case atStart => exact ⟨0, some ⟨w.heap.size, 0, none⟩, 0, by omega, rfl, rfl, Lib.hid (fun i hi => by omega), by simpa using hO1, Lib.hid (by simp), fun q hq => by have hq' : w.heap.size = q := Option.some.inj hq; omega, hB1, HCS.out, hbS⟩
  case round =>
    obtain ⟨j, ao, ko, hj, rfl, rfl, HI, hO, HLO, hne, hB, hcell, hbw⟩ := hrel
    clear hO1 hB1
    obtain ⟨wo, rfl⟩ : ∃ wo : World, wo = wr := ⟨_, rfl⟩
    by_cases hlt : j < ss.length
    · have hki : (j : Int) < (ss.length : Int) := by omega
      have hk0 : (0 : Int) ≤ (j : Int) := by omega
      have dS := hcell j hlt
      obtain ⟨hx, hxs⟩ := parts_at HSP.out hlt
      rw [lB_len] at hxs
      have HX := Lib.hid hx
      have HCELL := Lib.hid hcell
      clear hx hcell
      generalize gS ss j = x at *
      go_wp2_with fail
      refine (numberOf_c x _ (by omega)).mono ?_
      rintro e w2 ⟨y, rfl, hy0, hy1, hv, hd⟩
      rw [HX.out] at hv ⊢
      have hb2 := hd.below wo.heap.size
      have hO2 := hO.below hb2 (Nat.le_refl _)
      have hB2 := below_step hB hb2
      have HC2 := Lib.hid (fun i (hi : i < ss.length) => (hb2.cell (p := ⟨bS, oS + i, none⟩) hbw).trans (HCELL.out i hi))
      have hbw2 : bS < w2.heap.size := Nat.lt_of_lt_of_le hbw hb2.size
      clear dS hO hB hd hb2 HCELL hbw
      have hjs : j < (splitL 44 (lB s)).length := by rw [HLEN.out]; exact hlt
      cases hok : numB (gT (splitL 44 (lB s)) j)
      · have HF : Hid (RetNs w (lB s) (.returned (.tuple #[.slice none 0 0, .bool false])) w2) := Lib.hid ⟨none, 0, 0, [], by rw [all_no hjs hok], rfl, (fun h => by rw [all_no hjs hok] at h; cases h), own_nil _ _ _, by omega, .inl ⟨rfl, rfl⟩, hB2⟩
        clear hok hjs hv hO2 hB2 HI HLO hne
        go_wp2
        go_ret2
        exact HF.out
      · have hv := hv hok
        have HNX := Lib.hid (show (nbV (lB s)).take (j + 1) = (nbV (lB s)).take j ++ [y] by rw [nbV_step hjs, hv])
        have HI2 : Hid (∀ i, i < j + 1 → numB (gT (splitL 44 (lB s)) i) = true) := Lib.hid (fun i hi => by
          by_cases e : i = j
          · subst e; exact hok
          · exact HI.out i (by omega))
        clear HI hok hv hjs
        generalize (nbV (lB s)).take j = L at *
        have hz : w.heap.size ≤ w2.heap.size := hB2.size
        have HNE := Lib.hid hne
        clear hne
        go_wp2_with (at_builtin; refine wpList_pushL rfl (.tmp 27) (.tmp 29) 24 rfl w.heap.size 2 i0 Tryd.underlying24 hi hz0 hz1 hz2 (.slice ao j ko) L y rfl hO2 rfl (by rw [HLO.out]; omega) hz ?_; intro g2 kg2 w3 ho hk2 hl; rw [HLO.out] at ho ⊢)
        have HR := Lib.hid (show OwnI w3 w.heap.size (.slice (some ⟨g2, 0, none⟩) (j + 1) kg2) ((nbV (lB s)).take (j + 1)) ∧ ((nbV (lB s)).take (j + 1)).length = j + 1 ∧ (∀ q, (Value.slice (some ⟨g2, 0, none⟩) (j + 1) kg2).ownBlock = some q → q ≠ bS) ∧ Below w.heap.size w w3 ∧ (∀ i, i < ss.length → w3.cell? ⟨bS, oS + i, none⟩ = some (.string (gS ss i))) ∧ bS < w3.heap.size from
          ⟨by rw [HNX.out]; exact ho, by rw [HNX.out, List.length_append, HLO.out]; rfl, fun q hq e => by
            have hq' : g2 = q := Option.some.inj hq
            rcases hl with hl | hl
            · exact HNE.out _ hl (by omega)
            · omega, hB2.trans (hk2.below (B := w.heap.size) hz (fun b e => (hO2.block b e).1)), fun i hi => (hk2.cell (p := ⟨bS, oS + i, none⟩) hbw2 (fun e => HNE.out _ e rfl)).trans (HC2.out i hi), Nat.lt_of_lt_of_le hbw2 hk2.size⟩)
        clear ho hk2 hl hO2 hB2 hbw2 HC2 HNE HLO HNX
        go_wp2
        go_roundw
        case rel => exact ⟨j + 1, _, _, by omega, by go_num, rfl, HI2, HR.out.1, Lib.hid HR.out.2.1, HR.out.2.2.1, HR.out.2.2.2.1, HR.out.2.2.2.2.1, HR.out.2.2.2.2.2⟩
        case measure => simp [intOf]; omega
    · have hke : j = ss.length := by omega
      have hki : ¬ (j : Int) < (ss.length : Int) := by omega
      have HA := Lib.hid (show (splitL 44 (lB s)).all numB = true from all_yes fun i hi => HI.out i (by have := HLEN.out; omega))
      have hall : (nbV (lB s)).take j = nbV (lB s) := List.take_of_length_le (by unfold nbV; rw [List.length_map, HLEN.out]; omega)
      rw [hall] at hO HLO
      have HF : Hid (RetNs w (lB s) (.returned (.tuple #[.slice ao j ko, .bool true])) wo) := Lib.hid ⟨ao, j, ko, nbV (lB s), by rw [HA.out], HLO.out, fun _ => rfl, hO, by have := HLL.out; omega, .inr (by rw [HLO.out]; omega), hB⟩
      clear hall hO HLO hB HI hne hcell hbw hke hj
      go_wp2
      go_ret2
      exact HF.out
theorem bt_three {T : List Int} : 3 ≤ (btL T).length := by
  have := List.length_pos_iff.2 (decL_ne (gI T 0).toNat)
  rw [← show dL (gI T 0) = decL (gI T 0).toNat from rfl] at this
  unfold btL inL
  simp
  omega
theorem pb_short {t : List UInt8} {T : List Int} {c : Int} (h : PbR t T c) (hl : t.length < 3) : T = [] ∧ c = 6 := by
  rcases h with ⟨_, h2, _⟩ | ⟨_, h⟩
  · have := bt_three (T := T)
    rw [h2] at this
    omega
  · exact h
theorem retBC_err {w w' : World} {c : Int} (hb : Below w.heap.size w w') : RetBC w [] c (.returned (.tuple #[.agg #[.slice none 0 0], .int .i64 c])) w' := ⟨none, 0, rfl, own_nil _ _ _, hb⟩
/-- What stands between the brackets of a text. -/
theorem mid_lB (s : ByteArray) : lB (s.extract 1 (s.size - 1)) = ((lB s).drop 1).take ((lB s).length - 1 - 1) := by rw [lB_cut, lB_len]
theorem fr_bytes {s : ByteArray} (h : 2 ≤ s.size) (h0 : s[0]'(by omega) = 40) (h1 : s[s.size - 1]'(by omega) = 41) : lB s = 40 :: (lB (s.extract 1 (s.size - 1)) ++ [41]) := by
  rw [mid_lB s]
  refine fr_mid (by rw [lB_len]; exact h) ?_ ?_
  · rw [lB_get (by omega) (by rw [lB_len]; omega)]; exact h0
  · have e : (lB s).length - 1 = s.size - 1 := by rw [lB_len]
    have := lB_get (s := s) (k := s.size - 1) (by omega) (by rw [lB_len]; omega)
    rw [← h1, ← this]
    congr 1
theorem fr_bytes_no {s : ByteArray} (h : ∀ (hl : 2 ≤ s.size), ¬ (s[0]'(by omega) = 40 ∧ s[s.size - 1]'(by omega) = 41)) : ∀ u, lB s ≠ 40 :: (u ++ [41]) := by
  refine fr_no fun hl => ?_
  rw [lB_len] at hl
  rintro ⟨e1, e2⟩
  refine h hl ⟨?_, ?_⟩
  · rw [← e1]; exact (lB_get (by omega) _).symm
  · rw [← e2]
    have := lB_get (s := s) (k := s.size - 1) (by omega) (by rw [lB_len]; omega)
    rw [← this]
    congr 1
/-- Behind the numbers: the box with the branch, and whether all was read. -/
def CutB (w wc : World) (u : List UInt8) (N : Nat) (s8 s9 : Value) : Prop :=
  ∃ (a : Option Addr) (n k : Nat) (L : List Int), s8 = .bool (imO u) ∧ s9 = .pointer (some ⟨N, 0, none⟩) ∧ Blk wc N 26 #[.slice a n k] ∧ OwnI wc (w.heap.size + 1) (.slice a n k) L ∧ L.length = n ∧ (imO u = true → L = imT u) ∧ (∀ q, (Value.slice a n k).ownBlock = some q → q ≠ N) ∧ Blk wc w.heap.size 26 #[.slice none 0 0] ∧ N ≠ w.heap.size ∧ Below w.heap.size w wc
set_option maxRecDepth 100000 in
set_option maxHeartbeats 4000000 in
theorem implPB_c (s : ByteArray) (T : List Int) (c : Int) (w : World) (hs : s.size ≤ 137438953472) (hR : PbR (lB s) T c) :
    Calls Tryd.prog 8 #[.string s] w (RetBC w T c) := by
  obtain ⟨i0, hi, hz0, hz1, hz2⟩ := info_parts Tryd.infoI
  have HR := Lib.hid hR
  clear hR
  have D := Blk.new w 26 #[.slice none 0 0]
  have hb0 : Below w.heap.size w (w.alloc (.cells #[.slice none 0 0] 26)) := (Below.refl _ _).alloc (Nat.le_refl _) _
  have hsz : (w.alloc (.cells #[.slice none 0 0] 26)).heap.size = w.heap.size + 1 := by simp
  by_cases h3 : s.size < 3
  · have h3g : (s.size : Int) < 3 := by omega
    obtain ⟨rfl, rfl⟩ := pb_short HR.out (by rw [lB_len]; exact h3)
    clear HR h3
    go_enter Tryd.func8, Tryd.ntmps8
    go_upto_region 1 with fail
    generalize w.alloc (.cells #[.slice none 0 0] 26) = w0 at *
    have f0 := D.free 0
    have e0 := D.cell 0
    have q0 := (D.set 0 (.slice none 0 0)).cell 0
    have hfin := hb0.setCell (p := ⟨w.heap.size, 0, none⟩) (Nat.le_refl _) (.slice none 0 0)
    go_wp2
    exact bodyPost_ret (v := .tuple #[.agg #[.slice none 0 0], .int .i64 6]) (by simp [results, Tryd.results8, go_sem, q0]) rfl (retBC_err hfin)
  · have h3g : ¬ (s.size : Int) < 3 := by omega
    have hp : 0 < s.size := by omega
    have hl : s.size - 1 < s.size := by omega
    have hm1 : IntKind.i64.wrap ((s.size : Int) - 1) = (s.size : Int) - 1 := IntWalk.i64_in _ (by omega)
    have hm2 : ((s.size : Int) - 1).toNat = s.size - 1 := by omega
    have hm3 : (0 : Int) ≤ (s.size : Int) - 1 := by omega
    have hm4 : (s.size : Int) - 1 < (s.size : Int) := by omega
    have hm5 : (1 : Int) ≤ (s.size : Int) - 1 := by omega
    by_cases h40 : s[0]'hp = 40
    · have b40 : (((s[0]'hp).toNat : Int) != 40) = false := by rw [h40]; rfl
      by_cases h41 : s[s.size - 1]'hl = 41
      · have b41 : (((s[s.size - 1]'hl).toNat : Int) != 41) = false := by rw [h41]; rfl
        have HFR := Lib.hid (fr_bytes (by omega) h40 h41)
        have hes : (s.extract 1 (s.size - 1)).size ≤ 137438953472 := by simp; omega
        clear h40 h41 h3
        go_enter Tryd.func8, Tryd.ntmps8
        go_upto_region 1 with fail
        generalize w.alloc (.cells #[.slice none 0 0] 26) = w0 at *
        go_wp2_with fail
        refine (parted_c (s.extract 1 (s.size - 1)) 59 _ hes).mono ?_
        rintro e w1 ⟨x, y, rfl, hx, hy, hd⟩
        obtain ⟨u, hu⟩ : ∃ u, lB (s.extract 1 (s.size - 1)) = u := ⟨_, rfl⟩
        have hul : u.length ≤ 137438953472 := by rw [← hu, lB_len]; exact hes
        rw [hu] at hx hy HFR ⊢
        have hlen := bef_len 59 u
        have hxs : x.size ≤ 137438953472 := by rw [← lB_len, hx]; omega
        have hys : y.size ≤ 137438953472 := by rw [← lB_len, hy]; omega
        have D1 := D.stays (hd.below _)
        have hb1 := below_step hb0 (hd.below _)
        have HX := Lib.hid hx
        have HY := Lib.hid hy
        clear D hb0 hd hx hy hu hul hlen hes b40 b41 hm1 hm3 hm5
        go_wp2_with fail
        refine (numberOf_c x _ hxs).mono ?_
        rintro e w2 ⟨n, rfl, hn0, hn1, hv, hd⟩
        rw [HX.out] at hv ⊢
        have D2 := D1.stays (hd.below _)
        have hb2 := below_step hb1 (hd.below _)
        have hz2' : w.heap.size + 1 ≤ w2.heap.size := by have := (hd.below w1.heap.size).size; have := D1.lt; have := hb1.size; omega
        have o2 := (own_one (e := 2) w2 (w.heap.size + 1) hz2' n).below ((Below.refl (w2.alloc (.cells #[.int .i64 n] 2)).heap.size _).alloc (Nat.le_refl _) (.cells #[.slice (some ⟨w2.heap.size, 0, none⟩) 1 1] 26)) (Nat.le_refl _)
        have hal : Below w2.heap.size w2 ((w2.alloc (.cells #[.int .i64 n] 2)).alloc (.cells #[.slice (some ⟨w2.heap.size, 0, none⟩) 1 1] 26)) := ((Below.refl _ _).alloc (Nat.le_refl _) _).alloc (by simp) _
        have B3 := Blk.new' (w := w2.alloc (.cells #[.int .i64 n] 2)) (t := 26) (cs := #[.slice (some ⟨w2.heap.size, 0, none⟩) 1 1]) (g := w2.heap.size + 1) (by simp)
        have D3 := D2.stays hal
        have hb3 := below_step hb2 hal
        clear D1 D2 hb1 hb2 hd hal
        go_upto_region 6 with fail
        generalize (w2.alloc (.cells #[.int .i64 n] 2)).alloc (.cells #[.slice (some ⟨w2.heap.size, 0, none⟩) 1 1] 26) = w3 at *
        have hN : w2.heap.size + 1 < w3.heap.size := B3.lt
        have hIM := (show imO u = (numB (bef 59 u) && (!hasC 59 u || (splitL 44 (aft 59 u)).all numB)) from rfl)
        have hIT := (show imT u = (valN (bef 59 u) : Int) :: (if hasC 59 u then (splitL 44 (aft 59 u)).map (fun x => (valN x : Int)) else []) from rfl)
        have HIM := Lib.hid hIM
        have HIT := Lib.hid hIT
        have HV := Lib.hid hv
        clear hIM hIT hv
        generalize hb5 : numB (bef 59 u) = b5 at *
        generalize hb6 : hasC 59 u = b6 at *
        go_cut [50] from 47 to 50 (fun s50 wd => s50 = .bool (b5 && b6) ∧ w3 = wd)
        case first =>
          cases b5
          · go_wp2
            go_meet
            exact ⟨rfl, rfl⟩
          · go_wp2
            go_meet
            exact ⟨rfl, rfl⟩
        case rest =>
          obtain ⟨rfl, rfl⟩ := hcut
          go_upto_if 50 with fail
          go_cut [8, 9] from 8 to 61 (fun s8 s9 wc => CutB w wc u (w2.heap.size + 1) s8 s9)
          case first =>
            cases b5
            · have HF := Lib.hid (show CutB w w3 u (w2.heap.size + 1) (.bool false) (.pointer (some ⟨w2.heap.size + 1, 0, none⟩)) from
                ⟨_, _, _, [n], by rw [HIM.out]; rfl, rfl, B3, o2, rfl, (fun h => by rw [HIM.out] at h; cases h), (fun q hq => by have hq' : w2.heap.size = q := Option.some.inj hq; omega), D3, by omega, hb3⟩)
              clear o2 B3 D3 hb3
              rw [Bool.false_and]
              go_wp2
              go_meet
              exact HF.out
            · have HV2 := Lib.hid (HV.out rfl)
              cases b6
              · have HF := Lib.hid (show CutB w w3 u (w2.heap.size + 1) (.bool true) (.pointer (some ⟨w2.heap.size + 1, 0, none⟩)) from
                  ⟨_, _, _, [n], by rw [HIM.out]; rfl, rfl, B3, o2, rfl, (fun _ => by rw [HIT.out, HV2.out]; rfl), (fun q hq => by have hq' : w2.heap.size = q := Option.some.inj hq; omega), D3, by omega, hb3⟩)
                clear o2 B3 D3 hb3
                rw [Bool.and_false]
                go_wp2
                go_meet
                exact HF.out
              · rw [Bool.and_true]
                go_wp2_with fail
                refine (numbersOf_c y _ hys).mono ?_
                rintro e w4 ⟨aL, nL, kL, L, rfl, lL, vL, oL, lnL, hLne, hb4⟩
                rw [HY.out] at vL lnL ⊢
                have B4 := B3.stays hb4
                have D4 := D3.stays hb4
                have o4 := o2.below hb4 (Nat.le_refl _)
                have hb4' := below_step hb3 hb4
                have hz4 : w3.heap.size ≤ w4.heap.size := hb4.size
                obtain ⟨m5, hm5⟩ : ∃ m, ([n] ++ L).length = m := ⟨_, rfl⟩
                have HM5 := Lib.hid hm5
                have HVL := Lib.hid vL
                have HLL := Lib.hid lL
                have hLs : L.length ≤ 137438953474 := by
                  have h1 := bef_len 59 u
                  have h2 : (aft 59 u).length ≤ 137438953472 := by rw [← HY.out, lB_len]; exact hys
                  omega
                have HLS := Lib.hid hLs
                have HLN := Lib.hid hLne
                have l4 := B4.lt
                have c4 := B4.cell 0
                have f4 := B4.free 0
                clear B3 D3 o2 hb3 hb4 hm5 vL lL lnL hLs hLne
                generalize hb7 : (splitL 44 (aft 59 u)).all numB = b7 at *
                go_wp2_with (at_builtin; refine wpList_extendL rfl (.tmp 57) (.tmp 58) 24 rfl (w.heap.size + 1) w3.heap.size 2 i0 Tryd.underlying24 hi hz0 hz1 hz2 (.slice (some ⟨w2.heap.size, 0, none⟩) 1 1) (.slice aL nL kL) [n] L m5 HM5.out rfl o4 rfl oL HLN.out (by have := HLS.out; simp; omega) (by omega) ?_; intro a5 k5 w5 ho hk hl; have hcell := (hk.cell (p := ⟨w2.heap.size + 1, 0, none⟩) l4 (fun e => by have hq' : w2.heap.size = w2.heap.size + 1 := Option.some.inj e; omega)).trans c4; have hfree := (hk.frozen (p := ⟨w2.heap.size + 1, 0, none⟩) l4 (fun e => by have hq' : w2.heap.size = w2.heap.size + 1 := Option.some.inj e; omega)).trans f4)
                have hne5 : ∀ q, (Value.slice a5 m5 k5).ownBlock = some q → q ≠ w2.heap.size + 1 := fun q hq => by
                  rcases hl q hq with h | h
                  · have hq' : w2.heap.size = q := Option.some.inj h
                    omega
                  · omega
                have B5 := B4.keeps hk (fun e => by have hq' : w2.heap.size = w2.heap.size + 1 := Option.some.inj e; omega)
                have D5 := D4.keeps hk (fun e => by have hq' : w2.heap.size = w.heap.size := Option.some.inj e; omega)
                have hb5' := hb4'.trans (hk.below (B := w.heap.size) hb4'.size (fun b e => by have hq' : w2.heap.size = b := Option.some.inj e; omega))
                have HF := Lib.hid (show CutB w (w5.setCell ⟨w2.heap.size + 1, 0, none⟩ (.slice a5 m5 k5)) u (w2.heap.size + 1) (.bool b7) (.pointer (some ⟨w2.heap.size + 1, 0, none⟩)) from
                  ⟨a5, m5, k5, [n] ++ L, by rw [HIM.out]; rfl, rfl, B5.set 0 _, ho.other (g := w2.heap.size + 1) hne5 0 _, HM5.out, (fun h => by
                    have h7 : b7 = true := by rw [HIM.out] at h; exact h
                    rw [HIT.out, HV2.out, HVL.out h7]; rfl), hne5, D5.other (g' := w2.heap.size + 1) (by omega) 0 _, by omega, hb5'.setCell (p := ⟨w2.heap.size + 1, 0, none⟩) (by simp; omega) _⟩)
                clear hcell hfree hne5 B5 D5 hb5' ho hk hl B4 D4 o4 oL hb4' c4 f4
                go_wp2
                go_meet
                exact HF.out
          case rest =>
            obtain ⟨a5, m5, k5, L, rfl, rfl, B6, o6, lL, hLT, hne6, D6, hNn, hb6⟩ := hcut
            have HLL := Lib.hid lL
            have HLT := Lib.hid hLT
            have hz6 : w2.heap.size + 1 < wc.heap.size := B6.lt
            clear lL hLT HV o2 B3 D3 hb3 HIM HIT
            cases ho : imO u
            · obtain ⟨rfl, rfl⟩ := pbi_no HR.out HFR.out (fun h => by rw [ho] at h; cases h.1)
              clear HR HFR HLT ho o6 B6 hne6
              have f0 := D6.free 0
              have e0 := D6.cell 0
              have q0 := (D6.set 0 (.slice none 0 0)).cell 0
              have hfin := hb6.setCell (p := ⟨w.heap.size, 0, none⟩) (Nat.le_refl _) (.slice none 0 0)
              go_wp2
              exact bodyPost_ret (v := .tuple #[.agg #[.slice none 0 0], .int .i64 6]) (by simp [results, Tryd.results8, go_sem, q0]) rfl (retBC_err hfin)
            · have HL2 := Lib.hid (HLT.out ho)
              clear HLT
              have c6 := B6.cell 0
              go_wp2_with fail
              refine (implIsBranch_c _ L _ o6.rd).mono ?_
              rintro e w7 ⟨rfl, hb7⟩
              have D7 := D6.stays hb7
              have B7 := B6.stays hb7
              have o7 := o6.below hb7 (Nat.le_refl _)
              have hb8 := below_step hb6 hb7
              clear c6 B6 D6 o6 hb6 hb7 hne6
              cases hcl : braB L
              · obtain ⟨rfl, rfl⟩ := pbi_no HR.out HFR.out (fun h => by rw [← HL2.out, hcl] at h; cases h.2)
                clear HR HFR HL2 ho hcl o7 B7
                have f0 := D7.free 0
                have e0 := D7.cell 0
                have q0 := (D7.set 0 (.slice none 0 0)).cell 0
                have hfin := hb8.setCell (p := ⟨w.heap.size, 0, none⟩) (Nat.le_refl _) (.slice none 0 0)
                go_wp2
                exact bodyPost_ret (v := .tuple #[.agg #[.slice none 0 0], .int .i64 6]) (by simp [results, Tryd.results8, go_sem, q0]) rfl (retBC_err hfin)
              · obtain ⟨hT, rfl⟩ := pbi_yes HR.out HFR.out ho (by rw [← HL2.out]; exact hcl)
                have e : T = L := hT.trans HL2.out.symm
                subst e
                have c7 := B7.cell 0
                have f0 := D7.free 0
                have e0 := D7.cell 0
                have q0 := (D7.set 0 (.slice a5 m5 k5)).cell 0
                have HF := Lib.hid (show RetBC w T 0 (.returned (.tuple #[.agg #[.slice a5 m5 k5], .int .i64 0])) (w7.setCell ⟨w.heap.size, 0, none⟩ (.slice a5 m5 k5)) from
                  ⟨a5, k5, by rw [HLL.out], by rw [HLL.out]; exact (o7.other (g := w.heap.size) (fun q hq => by have := (o7.block q hq).1; omega) 0 _).base_le (by omega), hb8.setCell (p := ⟨w.heap.size, 0, none⟩) (Nat.le_refl _) _⟩)
                clear HR HFR HL2 ho hcl o7 B7 D7 hb8 hT
                go_wp2
                exact bodyPost_ret (v := .tuple #[.agg #[.slice a5 m5 k5], .int .i64 0]) (by simp [results, Tryd.results8, go_sem, q0]) rfl HF.out
      · have b41 : (((s[s.size - 1]'hl).toNat : Int) != 41) = true := by
          rw [bne_iff_ne]
          intro e
          exact h41 (UInt8.toNat_inj.1 (by have : (41 : UInt8).toNat = 41 := rfl; omega))
        obtain ⟨rfl, rfl⟩ := pb_fr HR.out (fr_bytes_no fun _ h => h41 h.2)
        clear HR h41 h40 h3
        go_enter Tryd.func8, Tryd.ntmps8
        go_upto_region 1 with fail
        generalize w.alloc (.cells #[.slice none 0 0] 26) = w0 at *
        have f0 := D.free 0
        have e0 := D.cell 0
        have q0 := (D.set 0 (.slice none 0 0)).cell 0
        have hfin := hb0.setCell (p := ⟨w.heap.size, 0, none⟩) (Nat.le_refl _) (.slice none 0 0)
        go_wp2
        exact bodyPost_ret (v := .tuple #[.agg #[.slice none 0 0], .int .i64 6]) (by simp [results, Tryd.results8, go_sem, q0]) rfl (retBC_err hfin)
    · have b40 : (((s[0]'hp).toNat : Int) != 40) = true := by
        rw [bne_iff_ne]
        intro e
        exact h40 (UInt8.toNat_inj.1 (by have : (40 : UInt8).toNat = 40 := rfl; omega))
      obtain ⟨rfl, rfl⟩ := pb_fr HR.out (fr_bytes_no fun _ h => h40 h.1)
      clear HR h40 h3
      go_enter Tryd.func8, Tryd.ntmps8
      go_upto_region 1 with fail
      generalize w.alloc (.cells #[.slice none 0 0] 26) = w0 at *
      have f0 := D.free 0
      have e0 := D.cell 0
      have q0 := (D.set 0 (.slice none 0 0)).cell 0
      have hfin := hb0.setCell (p := ⟨w.heap.size, 0, none⟩) (Nat.le_refl _) (.slice none 0 0)
      go_wp2
      exact bodyPost_ret (v := .tuple #[.agg #[.slice none 0 0], .int .i64 6]) (by simp [results, Tryd.results8, go_sem, q0]) rfl (retBC_err hfin)
end Go.Proofs.YtglghdkjppcedaaDoor
