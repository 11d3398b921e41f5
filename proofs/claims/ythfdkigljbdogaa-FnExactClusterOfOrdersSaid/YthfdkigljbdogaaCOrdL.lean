/- Contracts: ClusterOfOrders, the program and the reference. -/
import Derived.Test.YthfdkigljbdogaaCOrdS
namespace Go.Proofs.Ythfdkigljbdogaa
open Go.RowKit

theorem implOfOrders_c (p s q v : Value) (P S W O : List Int) (w : World) (hp : Rd w p P) (hs : Rd w s S) (hq : Rd w q W) (hv : Rd w v O) :
    Calls Try.prog 58 #[.agg #[p, s, q], v] w (RetCC w (okL (ooB P S W O) P) (okL (ooB P S W O) S) (okL (ooB P S W O) (woTo (proxL P S) O P.length)) (ooC P S W O)) := by
  cases hc : cluB P S W
  · obtain ⟨e1, e2⟩ := ooB_1 (O := O) hc
    rw [e1, e2]
    exact implOfOrders_1 p s q v P S W O w hp hs hq hv hc
  · cases ho : ordB P O
    · obtain ⟨e1, e2⟩ := ooB_2 hc ho
      rw [e1, e2]
      exact implOfOrders_2 p s q v P S W O w hp hs hq hv hc ho
    · obtain ⟨e1, e2⟩ := ooB_3 hc ho
      rw [e1, e2]
      exact implOfOrders_3 p s q v P S W O w hp hs hq hv hc ho
theorem specOfOrders_c (p s q v : Value) (P S W O : List Int) (w : World) (hp : Rd w p P) (hs : Rd w s S) (hq : Rd w q W) (hv : Rd w v O) :
    Calls Try.prog 57 #[.agg #[p, s, q], v] w (RetCC w (okL (ooB P S W O) P) (okL (ooB P S W O) S) (okL (ooB P S W O) (woTo (proxL P S) O P.length)) (ooC P S W O)) := by
  cases hc : cluB P S W
  · obtain ⟨e1, e2⟩ := ooB_1 (O := O) hc
    rw [e1, e2]
    exact specOfOrders_1 p s q v P S W O w hp hs hq hv hc
  · have hcl := cluB_iff.1 hc
    by_cases hl : O.length = P.length
    · have hd : ((O.length : Int) != (P.length : Int)) = false := by simp [hl]
      have h0 : 0 < O.length := by have := hcl.1; omega
      cases ha : allIn O (-100000) 100000
      · obtain ⟨e1, e2⟩ := ooB_2 hc (show ordB P O = false by simp [ordB, ha])
        rw [e1, e2]
        exact specOfOrders_2b p s q v P S W O w hp hs hq hv hc hd ha h0
      · obtain ⟨e1, e2⟩ := ooB_3 hc (show ordB P O = true by simp [ordB, ha, hl])
        rw [e1, e2]
        exact specOfOrders_3 p s q v P S W O w hp hs hq hv _ hc hd hl ha h0 (cluB_with hcl (by rw [woTo_len]; exact hl))
    · have hd : ((O.length : Int) != (P.length : Int)) = true := by simp; omega
      obtain ⟨e1, e2⟩ := ooB_2 hc (show ordB P O = false by simp [ordB, hl])
      rw [e1, e2]
      exact specOfOrders_2a p s q v P S W O w hp hs hq hv hc hd
end Go.Proofs.Ythfdkigljbdogaa
