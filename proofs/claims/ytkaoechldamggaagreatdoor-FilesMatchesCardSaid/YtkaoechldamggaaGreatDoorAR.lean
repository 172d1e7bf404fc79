/- The law FilesMatches: the walk. -/
import Derived.Test.YtkaoechldamggaaGreatDoorAQ
import Derived.Test.YtkaoechldamggaaGreatDoorK2
namespace Go.Proofs.YtkaoechldamggaaGreatDoor
open Go Go.RowKit
set_option maxRecDepth 100000

set_option maxHeartbeats 1000000 in
theorem lMatches (p n : Bs) (w : World) (he : Env w) : Calls Tryz.prog 3 #[.string ⟨p.toArray⟩, .string ⟨n.toArray⟩] w fun e w' => e = .returned (.bool true) ∧ Below w.heap.size w w' := by
  have ca := fun W (hW : Env W) => paw W hW
  by_cases hp : 1024 < p.length
  · have h1 : decide ((1024 : Int) < (p.length : Int)) = true := decide_eq_true (by omega)
    go_enter Tryz.func3, Tryz.ntmps3
    go_wp2_with (go_at_call 11; refine (ca _ he).mono ?_; rintro e w1 ⟨rfl, hb1⟩)
    go_returns
    exact ⟨rfl, hb1⟩
  · have h1 : decide ((1024 : Int) < (p.length : Int)) = false := decide_eq_false (by omega)
    by_cases hn : 1024 < n.length
    · have h2 : decide ((1024 : Int) < (n.length : Int)) = true := decide_eq_true (by omega)
      go_enter Tryz.func3, Tryz.ntmps3
      go_wp2_with (go_at_call 11; refine (ca _ he).mono ?_; rintro e w1 ⟨rfl, hb1⟩)
      go_returns
      exact ⟨rfl, hb1⟩
    · have h2 : decide ((1024 : Int) < (n.length : Int)) = false := decide_eq_false (by omega)
      have c1 := fun W => pmatch p n W (by omega) (by omega)
      have c2 := fun W => rmatch p n W (by omega) (by omega)
      generalize matchS p n = r at *
      rcases r with _ | _ | _
      all_goals
        unfold retMatch at c1 c2
        dsimp only at c1 c2
        go_enter Tryz.func3, Tryz.ntmps3
        go_wp2_with (first
          | (go_at_call 12; refine (c1 _).mono ?_; rintro e w1 ⟨rfl, hb1⟩)
          | (go_at_call 13; refine (c2 _).mono ?_; rintro e w2 ⟨rfl, hb2⟩; have hb2 := hb1.trans (hb2.mono hb1.size))
          | (go_at_call 11; refine (ca _ (he.below hb2)).mono ?_; rintro e w3 ⟨rfl, hb3⟩))
        go_returns
        exact ⟨rfl, hb2.trans (hb3.mono hb2.size)⟩
end Go.Proofs.YtkaoechldamggaaGreatDoor
