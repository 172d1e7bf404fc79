/- The laws' store and awake. -/
import Derived.Test.YtkaoechldamggaaGreatDoorAO
import Derived.Test.YtkaoechldamggaaGreatDoorAA
namespace Go.Proofs.YtkaoechldamggaaGreatDoor
open Go Go.RowKit
set_option maxRecDepth 100000

/-- The three files of the laws' own store. -/
def awEs : List Ent := [⟨[97, 47, 120], [49]⟩, ⟨[97, 47, 121], [50, 50]⟩, ⟨[98], [51, 51, 51]⟩]
theorem aw_fine : Fine awEs := ⟨by decide, by decide⟩
theorem aw_data : rdData awEs [97, 47, 121] = [50, 50] := by decide
theorem aw_err : rdErr awEs [97, 47, 121] = 0 := by decide
theorem names_ins (es : List Ent) (d : Bs) : namesOf es d = insAll (firsts es d) := (insAll_eq _).symm
theorem aw_names : namesOf awEs [97] = [[120], [121]] := by rw [names_ins]; decide
theorem aw_lst : rdDirLst awEs [97] 0 false = [⟨[120], false, 1⟩, ⟨[121], false, 2⟩] := by
  have : rdDirLst awEs [97] 0 false = (namesOf awEs [97]).map (infAt awEs [97]) := by
    unfold rdDirLst
    rw [if_pos (by decide)]
    rfl
  rw [this, aw_names]
  decide
theorem aw_parse : (parseAll [97, 47, 42]).isSome = true := by decide
theorem aw_hit1 : hitS [42] [120] = true := by decide
theorem aw_hit2 : hitS [42] [121] = true := by decide
theorem aw_glob : globL awEs 0 false [97, 47, 42] = [[97, 47, 120], [97, 47, 121]] := by
  have e : split2 [97, 47, 42] = ([97], [42]) := by decide
  unfold globL
  rw [if_pos aw_parse]
  unfold handL handF handG
  rw [if_pos (by decide), e, if_neg (by decide)]
  simp only [List.flatMap_cons, List.flatMap_nil, List.append_nil]
  unfold lvlG
  rw [show (false && !hasCap 0 3) = false from rfl]
  dsimp only
  rw [aw_lst]
  simp only [List.filter_cons, aw_hit1, aw_hit2, if_true, List.filter_nil, List.map_cons, List.map_nil]
  decide

theorem resultsB0 {T sz : Nat} (hT : STy T sz) {fn : Func} {p : Tmp} (h : fn.results = #[.cell p T]) (tmps : Array Value) (w : World) (g t : Nat) (cs : Array Value)
    (hp : tmps.getD p undef = .pointer (some ⟨g, 0, none⟩)) (hg : Blk w g t cs) (hs : cs.size = sz) :
    (results fn tmps).run Tryz.prog w = .ok (.agg cs) w := by
  obtain ⟨fs, hu⟩ := hT.hu
  have hp' : tmps[p]?.getD undef = .pointer (some ⟨g, 0, none⟩) := by simpa using hp
  simp [results, h, hp', asAddr, run_loadVar_row w g t T _ (0, 0) _ hg hu rfl (by rw [hs]; exact hT.hi)]

theorem pstore0 (w : World) : Calls Tryz.prog 35 #[.int .u32 0] w fun e w' => ∃ ad, e = .returned (.agg #[.slice (some ad) 3 3, .int .u32 0, .bool false]) ∧ Rd w' w'.heap.size (some ad) (entCells awEs) ∧ Below w.heap.size w w' := by
  go_enter Tryz.func35, Tryz.ntmps35
  go_wp2_with fail
  have hb1 : Blk (w.alloc (.cells #[.slice (some ⟨w.heap.size + 1, 0, none⟩) 3 3, .int .u32 0, .bool false] 32)) w.heap.size 32 #[.slice (some ⟨w.heap.size + 1, 0, none⟩) 3 3, .int .u32 0, .bool false] := Blk.newAt _ _ rfl rfl
  have hb2 := hb1.alloc (.cells #[.string ⟨#[97, 47, 120]⟩, .string ⟨#[49]⟩, .string ⟨#[97, 47, 121]⟩, .string ⟨#[50, 50]⟩, .string ⟨#[98]⟩, .string ⟨#[51, 51, 51]⟩] 74)
  have hr := World.ownsRow_lit (base := 0) (e := 74) (size := 2) (w.alloc (.cells #[.slice (some ⟨w.heap.size + 1, 0, none⟩) 3 3, .int .u32 0, .bool false] 32)) #[.string ⟨#[97, 47, 120]⟩, .string ⟨#[49]⟩, .string ⟨#[97, 47, 121]⟩, .string ⟨#[50, 50]⟩, .string ⟨#[98]⟩, .string ⟨#[51, 51, 51]⟩] 3 (Nat.zero_le _) (by decide) rfl
  obtain ⟨A, c, e, -, -, hrd⟩ := own_rd hr
  rw [World.size_alloc] at e
  cases e
  refine bodyPost_ret (resultsB0 sty32 rfl _ _ _ _ _ rfl hb2 rfl) rfl ?_
  exact ⟨_, rfl, hrd, by go_grown⟩

theorem add_nought (a : Addr) : a.add 0 = a := by unfold Addr.add; split <;> simp_all
theorem paw (w : World) (he : Env w) : Calls Tryz.prog 11 #[] w fun e w' => e = .returned (.bool true) ∧ Below w.heap.size w w' := by
  have c1 := fun W => pstore0 W
  have c2 := fun A W (hr : Rd W W.heap.size (some A) (entCells awEs)) (he : Env W) => pReadFile (some A) 3 awEs 0 false [97, 47, 121] W hr aw_fine he (by decide) (by decide)
  have c3 := fun A W (hr : Rd W W.heap.size (some A) (entCells awEs)) (he : Env W) => pGlob (some A) 3 awEs 0 false [97, 47, 42] W hr aw_fine he (by decide) (by decide)
  rw [aw_data, aw_err] at c2
  have e0 : globErr [97, 47, 42] = 0 := by unfold globErr; rw [if_pos aw_parse]
  rw [aw_glob, e0] at c3
  clear e0
  go_enter Tryz.func11, Tryz.ntmps11
  go_wp2_with (first
    | (go_at_call 22; refine (c2 _ _ hr1 (he.below hb1)).mono ?_; rintro e w2 ⟨v2, rfl, -, hb2⟩; have hb2 := hb1.trans (hb2.mono hb1.size))
    | (go_at_call 15; refine (c3 _ _ hr3 (he.below hb3)).mono ?_; rintro e w4 ⟨v4, u4, rfl, ho4, hb4⟩; have hb4 := hb3.trans (hb4.mono hb3.size); obtain ⟨A4, c4, rfl, -, -, hr4⟩ := own_rd ho4; obtain ⟨ad4, rfl, -, hq⟩ := hr4.str 0 (by decide); have hq0 : w4.cell? ad4 = some (.string ⟨#[97, 47, 120]⟩) := by rw [add_nought] at hq; exact hq)
    | (go_at_call 35; refine (c1 _).mono ?_; first | (rintro e w3 ⟨ad3, rfl, hr3, hb3⟩; have hb3 := hb2.trans (hb3.mono hb2.size)) | (rintro e w1 ⟨ad1, rfl, hr1, hb1⟩)))
  go_returns
  exact ⟨rfl, hb4⟩
end Go.Proofs.YtkaoechldamggaaGreatDoor
