/- The law's own fixed fact, and the law PathMakes. -/
import Derived.Test.YtikebdpaaamghaaDoorPath4
namespace Go.Proofs.YtikebdpaaamghaaDoor
open Go.RowKit

set_option maxHeartbeats 1000000 in
theorem awake_any (w : World) (hg : Glob w) :
    Calls Tryd.prog 5 #[] w fun e w' => e = .returned (.bool true) ∧ Below w.heap.size w w' := by
  have hP1 := fun W hG => parse_any [47, 97, 47, 98] (by decide) W hG
  have hP2 := fun W hG => parse_any [47, 97, 47] (by decide) W hG
  have e1 : parseOk [47, 97, 47, 98] = true := by decide
  have e1' : parseText [47, 97, 47, 98] = [47, 97, 47, 98] := by decide
  have e2 : parseOk [47, 97, 47] = false := by decide
  rw [e1, e1'] at hP1
  rw [e2] at hP2
  have H1 : ∀ W, Glob W → Calls Tryd.prog 9 #[.string ⟨#[47, 97, 47, 98]⟩] W fun e w' => e = .returned (.tuple #[.agg #[S [47, 97, 47, 98]], .nilIface]) ∧ Below W.heap.size W w' := fun W hG => hP1 W hG
  have H2 : ∀ W, Glob W → Calls Tryd.prog 9 #[.string ⟨#[47, 97, 47]⟩] W fun e w' => ∃ b, W.heap.size ≤ b ∧ e = .returned (.tuple #[.agg #[S []], .iface 46 (.pointer (some ⟨b, 0, none⟩))]) ∧ FaultC w' b 10 ∧ Below W.heap.size W w' := fun W hG => hP2 W hG
  clear hP1 hP2 e1 e1' e2
  go_enter Tryd.func5, Tryd.ntmps5
  go_wp2_with (first
    | (go_at_call 9; with_reducible refine (H1 _ hg).mono ?_; rintro e w1 ⟨rfl, hb1⟩; have hg1 := hg.below (ba hb1 (.cells #[S [47, 97, 47, 98]] 25)); have hc1 := cell_new w1 (S [47, 97, 47, 98]) 25)
    | (go_at_call 9; with_reducible refine (H2 _ hg1).mono ?_; rintro e w2 ⟨b2, hb2, rfl, hf2, hbel2⟩; have hc2 := keepb (ba hbel2 (.cells #[S []] 25)) hc1; have hg2 := hg1.below (ba hbel2 (.cells #[S []] 25)); have hF2 := hf2.below (ba (b0 w2) (.cells #[S []] 25)))
    | (go_at_call 17; with_reducible refine (depth_any [47, 97, 47, 98] _).mono ?_; rintro e w3 ⟨rfl, hb3⟩; have hc3 := keepb hb3 hc2; have hg3 := hg2.below hb3; have hF3 := hF2.below hb3)
    | (go_at_call 10; with_reducible refine (text_any [47, 97, 47, 98] _).mono ?_; rintro e w4 ⟨rfl, hb4⟩; have hg4 := hg3.below hb4; have hF4 := hF3.below hb4)
    | (go_at_call 8; with_reducible refine (code_at b2 10 _ hg4 hF4).mono ?_; rintro e w5 ⟨rfl, hb5⟩))
  go_ret
  exact ⟨rfl, bt (bt (bt (ba (bt (ba hb1 _) hbel2) _) hb3) hb4) hb5⟩
end Go.Proofs.YtikebdpaaamghaaDoor
