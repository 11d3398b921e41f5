/- One number put behind an owned slice that is used again: either its own block was taken, or a new one. No program in sight. -/
import Derived.Test.YtiinceflafigeaaPushS
namespace Go.Proofs.Ytiinceflafigeaa
open Go.RowKit

/-- Where the longer slice lies. -/
def Back (v : Value) (w w' : World) (g n cap : Nat) : Prop := (v = .slice (some ⟨g, 0, none⟩) n cap ∧ n + 1 ≤ cap) ∨ (g = w.heap.size ∧ Keeps (fun _ => False) w w')

/-- The elder slice is still there, with its numbers. -/
theorem Back.old {e : TypeId} {w w1 w2 : World} {base g n cap : Nat} {v : Value} {xs : List Int} {y : Int} {M : Nat → Prop} (hn : xs.length = n) (hb : Back v w w1 g n cap) (ho : Own e w base v xs)
    (ho2 : Own e w2 base (.slice (some ⟨g, 0, none⟩) (n + 1) cap) (xs ++ [y])) (hk : Keeps (fun k => M k ∨ k = g) w1 w2) (hM : ∀ k, v.ownBlock = some k → ¬ M k) : Own e w2 base v xs := by
  subst hn
  rcases hb with ⟨rfl, hc⟩ | ⟨hg, hk1⟩
  · rcases ho2.2 with ⟨h, _⟩ | ⟨g', cap', cur, hv, h1, h2, h3, h4, h5, h6⟩
    · cases h
    · injection hv with hv1 _ hv3
      injection hv1 with hv1
      injection hv1 with hv1
      subst hv1
      subst hv3
      refine ⟨by simp, .inr ⟨g, cap, cur, rfl, h1, h2, by omega, h4, h5, ?_⟩⟩
      rw [Nat.mul_one] at h6 ⊢
      have h7 := congrArg (List.take xs.length) h6
      rw [List.take_take, List.map_append, List.take_left' (by simp), Nat.min_eq_left (by omega)] at h7
      exact h7
  · have ho1 := ho.keeps hk1 (fun _ _ h => h)
    refine ho1.keeps hk (fun k hv h => ?_)
    rcases h with h | h
    · exact hM k hv h
    · have := ho.block k hv; omega

theorem step_pushF {P : Program} {w : World} {ops : Array Oper} {o : Oper} {a : Act} {K : Act → World → Prop} {Q : Exit → Act → World → Prop} {E : Prop} (hgd : o.guard = none) (s x : Operand) (t : TypeId)
    (ho : o.op = .call { callee := .builtin .append, args := #[s, x], argTypes := #[t, t] })
    (base : Nat) (e : TypeId) (i : TypeInfo) (ht : P.underlying t = some (.slice e)) (hi : P.info? e = some i) (hz : i.zero = some (.int .i64 0)) (hsize : i.size = 1) (hby : i.bytes = 8)
    (v : Value) (n : Nat) (xs : List Int) (y : Int) (h : Nat) (hn : xs.length = n) (hs : a.eval s = v) (hown : Own e w base v xs) (hx : a.eval x = .slice (some ⟨h, 0, none⟩) 1 1) (hblk : Blk w h e #[.int .i64 y])
    (hlen : n ≤ 1000000000000) (hbase : base ≤ w.heap.size)
    (hK : ∀ g2 cap2 w', Own e w' base (.slice (some ⟨g2, 0, none⟩) (n + 1) cap2) (xs ++ [y]) → Keeps (fun k => v.ownBlock = some k) w w' → Back v w w' g2 n cap2 → g2 < w'.heap.size → K (a.put o.dst (.slice (some ⟨g2, 0, none⟩) (n + 1) cap2)) w') :
    if Region.wanted o (yielded ops a.tmps) = true then Oper.wp P o a w K Q else E := by
  subst hn
  have hw : Region.wanted o (yielded ops a.tmps) = true := by simp [Region.wanted, hgd]
  rw [if_pos hw]
  have hnews : ∀ j u, ([Value.int .i64 y])[j]? = some u → w.cell? ((⟨h, 0, none⟩ : Addr).add j) = some u := World.news_of_block (cs := #[.int .i64 y]) (t := e) (fr := (0, 0)) hblk
  have h1c : ∀ u ∈ [Value.int .i64 y], u.oneCell' = true := by intro u hu; simp at hu; subst hu; rfl
  have h63 : xs.length + 1 ≤ maxLen := by unfold maxLen; omega
  obtain ⟨g2, cap2, w', hr, h2, h3, h4, h5⟩ := run_append_lies (P := P) w t o.type base e i (.int .i64 0) 1 8 ht hi hz hsize hby rfl (by decide) v xs.length (xs.map (Value.int .i64)) hown ⟨h, 0, none⟩ 1 1 [.int .i64 y] rfl hnews h1c (by omega) h63 (by omega) hbase w.heap.size rfl
  have hO := own_append h2
  have hkeep : Keeps (fun k => v.ownBlock = some k) w w' := (Keeps.of_grown h3).mono (fun k hk => hk)
  have hback : Back v w w' g2 xs.length cap2 := by
    rcases hown.2 with ⟨rfl, _⟩ | ⟨g, cap, cur, rfl, hbg, hcur, hle, hmax, hsz, _⟩
    · rcases h4 with h4 | h4
      · cases h4
      · exact .inr ⟨h4, hkeep.mono (fun k hk => by cases hk)⟩
    · by_cases hroom : xs.length + 1 ≤ cap
      · have hrr := run_append_room (P := P) (w := w) t o.type e i ht hi g xs.length cap cur hcur ⟨h, 0, none⟩ 1 1 [.int .i64 y] (by rw [hsize]; rfl) hnews h1c hroom (by rw [hsize]; simp; omega)
        rw [hrr] at hr
        injection hr with hr1 _
        injection hr1 with hr1 _ hr3
        injection hr1 with hr1
        injection hr1 with hr1
        subst hr1
        subst hr3
        exact .inl ⟨rfl, hroom⟩
      · have hown' : Own e w base (.slice (some ⟨g, 0, none⟩) xs.length cap) xs := hown
        obtain ⟨v'', w'', hr2, ho2, hgr⟩ := run_append_arg_grows (P := P) (w := w) t o.type e i (.int .i64 0) 1 8 ht hi hz hsize hby rfl (by decide) ⟨g, 0, none⟩ xs.length cap (xs.map (Value.int .i64)) (by simp) (fun j u hj => by
          have hjl : j < xs.length := by
            have := (List.getElem?_eq_some_iff.1 hj).1
            simpa using this
          rw [Addr.add_lit, Nat.zero_add, hown'.cell j hjl]
          rw [List.getElem?_map, gI_some hjl] at hj
          simpa using hj) ⟨h, 0, none⟩ 1 1 [.int .i64 y] rfl hnews (by omega) h63 (by omega)
        rw [hr2] at hr
        injection hr with hr0 hr1
        subst hr1
        subst hr0
        refine .inr ⟨?_, (Keeps.of_grown hgr).mono (fun k hk => by cases hk)⟩
        rcases h4 with h4 | h4
        · exfalso
          simp [Value.ownBlock] at h4
          have hgl : g < w.heap.size := (hown'.block g rfl).2
          rcases ho2.2 with ⟨h, _⟩ | ⟨g', cap', cur', hv, h1, _⟩
          · cases h
          · injection hv with hv1 _ _
            injection hv1 with hv1
            injection hv1 with hv1
            omega
        · exact h4
  unfold Oper.wp
  simp [execOp, ho, resolve, invoke, builtin, hs, hx, hr, Result.andThen]
  exact hK g2 cap2 w' hO hkeep hback h5
end Go.Proofs.Ytiinceflafigeaa
