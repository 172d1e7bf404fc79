/- The store in the program: the closures, stat, readFile. -/
import Derived.Test.YtkaoechldamggaaGreatDoorU
import Derived.Stop.Asserts
namespace Go.Proofs.YtkaoechldamggaaGreatDoor
open Go Go.RowKit
set_option maxRecDepth 100000

/-- What the files are, in the program's and in the reference's words. -/
def infVal (p : Bs) (k : Option (Option Bs)) : Array Value := #[.string ⟨(lastEl p).toArray⟩, .bool (match k with | some (some _) => false | _ => true), .int .i64 ((dataOf k).length : Int)]
def readErr (k : Option (Option Bs)) : Nat := match k with | none => 371 | some none => 372 | some (some _) => 0

theorem noStat : ∀ (v : Value) (xT : TypeId) (w : World), (Instr.typeAssert (.iface 87 v) xT 166 true).run Tryz.prog w = .ok (.tuple #[.nilIface, .bool false]) w := fun v xT w => run_typeAssert_lacksB Tryz.underlying166 (by kernel_rfl) (by kernel_rfl) v xT w
theorem yesStat : ∀ (v : Value) (xT : TypeId) (w : World), (Instr.typeAssert (.iface 147 v) xT 166 true).run Tryz.prog w = .ok (.tuple #[.iface 147 v, .bool true]) w := fun v xT w => run_typeAssert_hasB Tryz.underlying166 (by kernel_rfl) v xT w
theorem noRead : ∀ (v : Value) (xT : TypeId) (w : World), (Instr.typeAssert (.iface 87 v) xT 172 true).run Tryz.prog w = .ok (.tuple #[.nilIface, .bool false]) w := fun v xT w => run_typeAssert_lacksB Tryz.underlying172 (by kernel_rfl) (by kernel_rfl) v xT w
theorem yesRead : ∀ (v : Value) (xT : TypeId) (w : World), (Instr.typeAssert (.iface 152 v) xT 172 true).run Tryz.prog w = .ok (.tuple #[.iface 152 v, .bool true]) w := fun v xT w => run_typeAssert_hasB Tryz.underlying172 (by kernel_rfl) v xT w
theorem noDir : ∀ (v : Value) (xT : TypeId) (w : World), (Instr.typeAssert (.iface 87 v) xT 175 true).run Tryz.prog w = .ok (.tuple #[.nilIface, .bool false]) w := fun v xT w => run_typeAssert_lacksB Tryz.underlying175 (by kernel_rfl) (by kernel_rfl) v xT w
theorem yesDir : ∀ (v : Value) (xT : TypeId) (w : World), (Instr.typeAssert (.iface 158 v) xT 175 true).run Tryz.prog w = .ok (.tuple #[.iface 158 v, .bool true]) w := fun v xT w => run_typeAssert_hasB Tryz.underlying175 (by kernel_rfl) v xT w

theorem errV0 : errV 0 = .nilIface := rfl
theorem errV371 : errV 371 = .iface 125 (.int .i64 371) := rfl
theorem errV372 : errV 372 = .iface 125 (.int .i64 372) := rfl
theorem errV373 : errV 373 = .iface 125 (.int .i64 373) := rfl
theorem errV374 : errV 374 = .iface 125 (.int .i64 374) := rfl
theorem errV370 : errV 370 = .iface 125 (.int .i64 370) := rfl
theorem blkEnt (w : World) : Blk (w.alloc (.cells #[.pointer none, .string ⟨#[]⟩, .string ⟨#[]⟩, .bool false, .int .i64 0, .string ⟨#[]⟩] 122)) w.heap.size 122 #[.pointer none, .string ⟨#[]⟩, .string ⟨#[]⟩, .bool false, .int .i64 0, .string ⟨#[]⟩] := Blk.newAt _ _ rfl rfl

theorem pdoRead (g B : Nat) (A : Option Addr) (c : Nat) (es : List Ent) (caps : Nat) (blind : Bool) (qs : List Ask) (p : Bs) (w : World) (hg : StF w g A c es caps blind qs) (hf : Fine es) (hps : p.length ≤ 1024) (hl : qs.length ≤ 1099511627776)
    (hb1 : Blk w B 87 #[.pointer (some ⟨g, 0, none⟩)]) (hb2 : Blk w (B + 1) 3 #[.int .i64 1]) (hgB : g < B) :
    Calls Tryz.prog 65 #[.string ⟨p.toArray⟩, .pointer (some ⟨B, 0, none⟩), .pointer (some ⟨B + 1, 0, none⟩)] w fun e w' => e = .returned (.tuple #[.string ⟨(dataOf (look es p)).toArray⟩, errV (readErr (look es p))]) ∧ StF w' g A c es caps blind (qs ++ [⟨1, p⟩]) ∧ Kp g w w' := by
  have hlt := hg.lt
  obtain ⟨r, hr⟩ : ∃ r, look es p = r := ⟨_, rfl⟩
  rw [hr]
  have hbc1 := hb1.cell
  have hbc2 := hb2.cell
  have hB := hb1.lt
  rcases r with _ | _ | d
  all_goals
    go_enter Tryz.func65, Tryz.ntmps65
    go_wp2_with (first
      | (go_at_call 64; refine (pnote g A es.length c caps blind qs 1 1 rfl p _ hg.st hl).mono ?_; rintro e w1 ⟨rfl, hs1, hk1⟩; have hbd := (hk1.blk hb1 (by omega) (by decide)); have hbe := hbd.cell; have hg1 : StF w1 g A c es caps blind (qs ++ [⟨1, p⟩]) := ⟨hs1, hg.rd.below (hk1.low_ (Nat.le_of_lt hg.lt) (Nat.le_refl g)) (Nat.le_refl _)⟩; have hz1 := hk1.size)
      | (go_at_call 56; obtain ⟨av, hv1, -⟩ := hs1.ex; refine (pfind g A c es caps blind av p w1 hv1 (hg1.rd.more (Nat.le_of_lt hg1.lt)) hf.many (by omega) hf.each).mono ?_; rw [hr]; dsimp only [missing]; simp only [errV0, errV371]; rintro e w2 ⟨rfl, hb2⟩; have hg2 := hg1.below hb2; have hk2 := hk1.below hb2; have hz2 := hb2.size)
      | (refine storeB sty122 rfl (.tmp 6) (.tmp 16) rfl _ _ _ _ rfl (blkEnt _) rfl rfl rfl rfl ?_; intro w3 hz3 hw3; have hg3 := (hg2.alloc _).wrote (blkEnt _) (by decide) (by omega) hw3; have hk3 := (hk2.alloc _).wrote hw3 (by omega); have hc3 := hz3.cell; dsimp only [entArr, dataOf] at hc3; simp only [Act.put]))
    go_returns
  · exact ⟨ret_two rfl rfl, hg3, hk3⟩
  · exact ⟨ret_two rfl rfl, hg3, hk3⟩
  · exact ⟨ret_two rfl rfl, hg3, hk3⟩
end Go.Proofs.YtkaoechldamggaaGreatDoor
