/- entry.readDir, the lister's method. -/
import Derived.Test.YtkaoechldamggaaGreatDoorAE
namespace Go.Proofs.YtkaoechldamggaaGreatDoor
open Go Go.RowKit
set_option maxRecDepth 100000

theorem pmDir (g B : Nat) (A : Option Addr) (c : Nat) (es : List Ent) (caps : Nat) (blind : Bool) (qs : List Ask) (p : Bs) (w : World) (hg : StF w g A c es caps blind qs) (hf : Fine es) (he : Env w) (hg5 : 5 ≤ g) (hps : p.length ≤ 1024) (hl : qs.length ≤ 1099511627776)
    (hb1 : Blk w B 87 #[.pointer (some ⟨g, 0, none⟩)]) (hb2 : Blk w (B + 1) 3 #[.int .i64 2]) (hgB : g < B) :
    Calls Tryz.prog 167 #[.agg #[.pointer (some ⟨g, 0, none⟩), .func (.func 66) #[] #[.pointer (some ⟨B, 0, none⟩), .pointer (some ⟨B + 1, 0, none⟩)]], .string ⟨p.toArray⟩] w fun e w' => ∃ v, e = .returned (.tuple #[v, errV (dirErr (look es p) false)]) ∧ Infs w' w.heap.size v (dirLst es p false) ∧ StF w' g A c es caps blind (qs ++ [⟨2, p⟩]) ∧ Kp g w w' := by
  go_enter Tryz.func167, Tryz.ntmps167
  go_wp2_with (go_at_call 66; refine (pdoDir g B A c es caps blind qs p _ (hg.alloc _) hf (he.below (by go_grown)) hg5 hps hl (hb1.alloc _) (hb2.alloc _) hgB).mono ?_; rintro e w1 ⟨v, rfl, hi1, hg1, hk1⟩)
  go_returns
  exact ⟨_, ret_two rfl rfl, own_low hi1 (by simp), hg1, ((Kp.refl g w).alloc _).trans hk1⟩

theorem pentryDir (g : Nat) (A : Option Addr) (c : Nat) (es : List Ent) (caps : Nat) (blind : Bool) (qs : List Ask) (p : Bs) (k : Option Bs) (hk : look es p = some k) (w : World) (hg : StF w g A c es caps blind qs) (hf : Fine es) (he : Env w) (hps : p.length ≤ 1024) :
    Calls Tryz.prog 77 #[.agg (entArr g p (some k))] w fun e w' => ∃ v, e = .returned (.tuple #[v, errV (dirErr (look es p) blind)]) ∧ Infs w' w.heap.size v (dirLst es p blind) ∧ Below w.heap.size w w' := by
  obtain ⟨av, hb, -⟩ := hg.st.ex
  have hlt := hb.lt
  unfold dirLst
  rw [hk]
  cases k with
  | some d =>
    unfold entArr
    dsimp only [dataOf]
    go_enter Tryz.func77, Tryz.ntmps77
    go_wp2_with fail
    go_returns
    exact ⟨_, ret_two rfl rfl, World.ownsRow_nil _ _ _ _, by go_grown⟩
  | none =>
    unfold entArr
    dsimp only [dataOf]
    have hba := (hb.alloc (.cells #[.pointer (some ⟨g, 0, none⟩), .string ⟨p.toArray⟩, .string ⟨(lastEl p).toArray⟩, .bool true, .int .i64 0, .string ⟨#[]⟩] 122)).cell
    have hga := hg.alloc (.cells #[.pointer (some ⟨g, 0, none⟩), .string ⟨p.toArray⟩, .string ⟨(lastEl p).toArray⟩, .bool true, .int .i64 0, .string ⟨#[]⟩] 122)
    have hea : Env (w.alloc (.cells #[.pointer (some ⟨g, 0, none⟩), .string ⟨p.toArray⟩, .string ⟨(lastEl p).toArray⟩, .bool true, .int .i64 0, .string ⟨#[]⟩] 122)) := he.below (by go_grown)
    cases blind with
    | true =>
      go_enter Tryz.func77, Tryz.ntmps77
      go_wp2_with fail
      go_returns
      exact ⟨_, ret_two rfl rfl, World.ownsRow_nil _ _ _ _, by go_grown⟩
    | false =>
      go_enter Tryz.func77, Tryz.ntmps77
      go_wp2_with (go_at_call 67; refine (plist g A c es caps false qs p _ hga hf hea hps).mono ?_; rintro e w4 ⟨v4, rfl, hown4, hb4⟩)
      go_returns
      exact ⟨_, ret_two rfl rfl, own_low hown4 (by simp), (((Below.refl _ _).alloc (Nat.le_refl _) _).trans (hb4.mono (by simp)))⟩
end Go.Proofs.YtkaoechldamggaaGreatDoor
