/- Contracts: AddClusters, the program and the reference. -/
import Derived.Test.YtgjnllialhjhoaaAddS
namespace Go.Proofs.Ytgjnllialhjhoaa
open Go.RowKit

/-- May two clusters be added? -/
def adB (P S W P' S' W' : List Int) : Bool := pairB P S W P' S' W' && allIn (adTo W W' W.length) (-100000) 100000
def adC (P S W P' S' W' : List Int) : Int := if pairB P S W P' S' W' then okC (allIn (adTo W W' W.length) (-100000) 100000) 3 else pairC P S W P' S' W'
theorem ad_no {P S W P' S' W' : List Int} (h : pairB P S W P' S' W' = false) : adB P S W P' S' W' = false ∧ adC P S W P' S' W' = pairC P S W P' S' W' := by simp [adB, adC, h]
theorem ad_yes {P S W P' S' W' : List Int} (h : pairB P S W P' S' W' = true) : adB P S W P' S' W' = allIn (adTo W W' W.length) (-100000) 100000 ∧ adC P S W P' S' W' = okC (allIn (adTo W W' W.length) (-100000) 100000) 3 := by simp [adB, adC, h]
theorem implAdd_c (p s q p' s' q' : Value) (P S W P' S' W' : List Int) (w : World) (hp : Rd w p P) (hs : Rd w s S) (hq : Rd w q W) (hp' : Rd w p' P') (hs' : Rd w s' S') (hq' : Rd w q' W') :
    Calls Try.prog 46 #[.agg #[p, s, q], .agg #[p', s', q']] w (RetCC w (okL (adB P S W P' S' W') P) (okL (adB P S W P' S' W') S) (okL (adB P S W P' S' W') (adTo W W' W.length)) (adC P S W P' S' W')) := by
  cases h1 : cluB P S W
  · obtain ⟨e1, e2⟩ := ad_no (show pairB P S W P' S' W' = false by simp [pairB, h1])
    rw [e1, e2, pairC_1a h1]
    exact implAdd_1 p s q p' s' q' P S W P' S' W' w hp hs hq hp' hs' hq' h1
  · cases h2 : cluB P' S' W'
    · obtain ⟨e1, e2⟩ := ad_no (show pairB P S W P' S' W' = false by simp [pairB, h2])
      rw [e1, e2, pairC_1b h2]
      exact implAdd_2 p s q p' s' q' P S W P' S' W' w hp hs hq hp' hs' hq' h1 h2
    · cases h3 : likeB P S P' S'
      · obtain ⟨e1, e2⟩ := ad_no (show pairB P S W P' S' W' = false by simp [pairB, h3])
        rw [e1, e2, pairC_2 h1 h2 h3]
        exact implAdd_3 p s q p' s' q' P S W P' S' W' w hp hs hq hp' hs' hq' h1 h2 h3
      · obtain ⟨e1, e2⟩ := ad_yes (pairB_iff.2 ⟨h1, h2, h3⟩)
        rw [e1, e2]
        exact implAdd_4 p s q p' s' q' P S W P' S' W' w hp hs hq hp' hs' hq' h1 h2 h3
theorem specAdd_c (p s q p' s' q' : Value) (P S W P' S' W' : List Int) (w : World) (hp : Rd w p P) (hs : Rd w s S) (hq : Rd w q W) (hp' : Rd w p' P') (hs' : Rd w s' S') (hq' : Rd w q' W') :
    Calls Try.prog 44 #[.agg #[p, s, q], .agg #[p', s', q']] w (RetCC w (okL (adB P S W P' S' W') P) (okL (adB P S W P' S' W') S) (okL (adB P S W P' S' W') (adTo W W' W.length)) (adC P S W P' S' W')) := by
  rcases pairC_or P S W P' S' W' with ⟨hb, h0⟩ | ⟨hb, h0⟩
  · obtain ⟨e1, e2⟩ := ad_yes hb
    obtain ⟨h1, h2, h3⟩ := pairB_iff.1 hb
    have hc := cluB_iff.1 h1
    rw [e1, e2]
    exact specAdd_2 p s q p' s' q' P S W P' S' W' w hp hs hq hp' hs' hq' _ h1 h2 h3 (cluB_with hc (by rw [adTo_len]; exact hc.1.2.2.2))
  · obtain ⟨e1, e2⟩ := ad_no hb
    rw [e1, e2]
    exact specAdd_1 p s q p' s' q' P S W P' S' W' w hp hs hq hp' hs' hq' h0
end Go.Proofs.Ytgjnllialhjhoaa
