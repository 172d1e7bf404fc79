/- The laws' helpers at equal contents: asked, texts, infos, same; copied. -/
import Derived.Test.YtkaoechldamggaaGreatDoorT
import Derived.Test.YtkaoechldamggaaGreatDoorP
import Derived.Test.YtkaoechldamggaaGreatDoorAQ
namespace Go.Proofs.YtkaoechldamggaaGreatDoor
open Go Go.RowKit
set_option maxRecDepth 100000

set_option maxHeartbeats 1000000 in
theorem lAskedEq (A1 A2 : Option Addr) (c1 c2 : Nat) (qs : List Ask) (w : World) (h1 : Rd w w.heap.size A1 (askCells qs)) (h2 : Rd w w.heap.size A2 (askCells qs)) (hn : qs.length ≤ 1099511627776) :
    Calls Tryz.prog 18 #[.slice A1 qs.length c1, .slice A2 qs.length c2] w fun e w' => e = .returned (.bool true) ∧ Below w.heap.size w w' := by
  go_enter Tryz.func18, Tryz.ntmps18
  go_wp2_with fail
  go_loopw [13] (fun i wr => ∃ k : Nat, k ≤ qs.length ∧ i = .int .i64 k ∧ Below w.heap.size w wr) (fun i _ => qs.length - (intOf i).toNat)
  case atStart => exact ⟨0, Nat.zero_le _, rfl, by go_grown⟩
  case round =>
    obtain ⟨k, hk, rfl, hb⟩ := hrel
    have hs := hb.size
    by_cases hkl : k < qs.length
    · obtain ⟨a1, rfl, hl1, e1, e2⟩ := (h1.below hb (Nat.le_refl _)).ask k hkl
      obtain ⟨a2, rfl, hl2, f1, f2⟩ := (h2.below hb (Nat.le_refl _)).ask k hkl
      have hd : Below w.heap.size w wr.drew := hb.trans (by go_grown)
      go_upto_region 6 with fail
      have e1' : wr.drew.cell? (a1.add (k * 2)) = _ := e1
      have e2' : wr.drew.cell? ⟨(a1.add (k * 2)).block, (a1.add (k * 2)).off + 1, none⟩ = _ := e2
      have f1' : wr.drew.cell? (a2.add (k * 2)) = _ := f1
      have f2' : wr.drew.cell? ⟨(a2.add (k * 2)).block, (a2.add (k * 2)).off + 1, none⟩ = _ := f2
      go_region
      go_wp2_with fail
      go_roundw
      case rel => exact ⟨k + 1, by omega, by go_num, hd⟩
      case measure => simp [intOf]; omega
    · go_wp2_with fail
      go_returns
      exact ⟨rfl, hb⟩
set_option maxHeartbeats 1000000 in
theorem lInfosEq (A1 A2 : Option Addr) (c1 c2 : Nat) (qs : List Inf) (w : World) (h1 : Rd w w.heap.size A1 (infCells qs)) (h2 : Rd w w.heap.size A2 (infCells qs)) (hn : qs.length ≤ 1099511627776) :
    Calls Tryz.prog 26 #[.slice A1 qs.length c1, .slice A2 qs.length c2] w fun e w' => e = .returned (.bool true) ∧ Below w.heap.size w w' := by
  go_enter Tryz.func26, Tryz.ntmps26
  go_wp2_with fail
  go_loopw [13] (fun i wr => ∃ k : Nat, k ≤ qs.length ∧ i = .int .i64 k ∧ Below w.heap.size w wr) (fun i _ => qs.length - (intOf i).toNat)
  case atStart => exact ⟨0, Nat.zero_le _, rfl, by go_grown⟩
  case round =>
    obtain ⟨k, hk, rfl, hb⟩ := hrel
    have hs := hb.size
    by_cases hkl : k < qs.length
    · obtain ⟨a1, rfl, hl1, e1, e2, e3⟩ := (h1.below hb (Nat.le_refl _)).inf k hkl
      obtain ⟨a2, rfl, hl2, f1, f2, f3⟩ := (h2.below hb (Nat.le_refl _)).inf k hkl
      have hd : Below w.heap.size w wr.drew := hb.trans (by go_grown)
      go_upto_region 6 with fail
      have e1' : wr.drew.cell? (a1.add (k * 3)) = _ := e1
      have e2' : wr.drew.cell? ⟨(a1.add (k * 3)).block, (a1.add (k * 3)).off + 1, none⟩ = _ := e2
      have f1' : wr.drew.cell? (a2.add (k * 3)) = _ := f1
      have f2' : wr.drew.cell? ⟨(a2.add (k * 3)).block, (a2.add (k * 3)).off + 1, none⟩ = _ := f2
      have e3' : wr.drew.cell? ⟨(a1.add (k * 3)).block, (a1.add (k * 3)).off + 2, none⟩ = _ := e3
      have f3' : wr.drew.cell? ⟨(a2.add (k * 3)).block, (a2.add (k * 3)).off + 2, none⟩ = _ := f3
      go_region
      go_wp2_with fail
      go_roundw
      case rel => exact ⟨k + 1, by omega, by go_num, hd⟩
      case measure => simp [intOf]; omega
    · go_wp2_with fail
      go_returns
      exact ⟨rfl, hb⟩
set_option maxHeartbeats 1000000 in
theorem lTextsEq (A1 A2 : Option Addr) (c1 c2 : Nat) (qs : List Bs) (w : World) (h1 : Rd w w.heap.size A1 (strCells qs)) (h2 : Rd w w.heap.size A2 (strCells qs)) (hn : qs.length ≤ 1099511627776) :
    Calls Tryz.prog 17 #[.slice A1 qs.length c1, .slice A2 qs.length c2] w fun e w' => e = .returned (.bool true) ∧ Below w.heap.size w w' := by
  go_enter Tryz.func17, Tryz.ntmps17
  go_wp2_with fail
  go_loopw [13] (fun i wr => ∃ k : Nat, k ≤ qs.length ∧ i = .int .i64 k ∧ Below w.heap.size w wr) (fun i _ => qs.length - (intOf i).toNat)
  case atStart => exact ⟨0, Nat.zero_le _, rfl, by go_grown⟩
  case round =>
    obtain ⟨k, hk, rfl, hb⟩ := hrel
    have hs := hb.size
    by_cases hkl : k < qs.length
    · obtain ⟨a1, rfl, hl1, e1⟩ := (h1.below hb (Nat.le_refl _)).str k hkl
      obtain ⟨a2, rfl, hl2, f1⟩ := (h2.below hb (Nat.le_refl _)).str k hkl
      have hd : Below w.heap.size w wr.drew := hb.trans (by go_grown)
      go_upto_region 6 with fail
      have e1' : wr.drew.cell? (a1.add k) = _ := e1
      have f1' : wr.drew.cell? (a2.add k) = _ := f1
      go_region
      go_wp2_with fail
      go_roundw
      case rel => exact ⟨k + 1, by omega, by go_num, hd⟩
      case measure => simp [intOf]; omega
    · go_wp2_with fail
      go_returns
      exact ⟨rfl, hb⟩

set_option maxHeartbeats 1000000 in
theorem lSameEq (A1 A2 : Option Addr) (c1 c2 : Nat) (es : List Ent) (caps : Nat) (blind : Bool) (w : World) (h1 : Rd w w.heap.size A1 (entCells es)) (h2 : Rd w w.heap.size A2 (entCells es)) (hn : es.length ≤ 1099511627776) :
    Calls Tryz.prog 27 #[.agg #[.slice A1 es.length c1, .int .u32 (caps : Int), .bool blind], .agg #[.slice A2 es.length c2, .int .u32 (caps : Int), .bool blind]] w fun e w' => e = .returned (.bool true) ∧ Below w.heap.size w w' := by
  obtain ⟨w0, hw0⟩ : ∃ w0, (w.alloc (.cells #[.slice A1 es.length c1, .int .u32 (caps : Int), .bool blind] 32)).alloc (.cells #[.slice A2 es.length c2, .int .u32 (caps : Int), .bool blind] 32) = w0 := ⟨_, rfl⟩
  have hb0 : Below w.heap.size w w0 := by rw [← hw0]; go_grown
  have hx0 : Blk w0 w.heap.size 32 #[.slice A1 es.length c1, .int .u32 (caps : Int), .bool blind] := by rw [← hw0]; exact (Blk.newAt _ _ rfl rfl).alloc _
  have hy0 : Blk w0 (w.heap.size + 1) 32 #[.slice A2 es.length c2, .int .u32 (caps : Int), .bool blind] := by rw [← hw0]; exact Blk.newAt _ _ rfl (by simp)
  have hxl := hx0.lt
  have hyl := hy0.lt
  have hxc := hx0.cell
  have hyc := hy0.cell
  have hs0 := hb0.size
  have hbb : (blind == blind) = true := by simp
  go_enter Tryz.func27, Tryz.ntmps27
  go_wp2_with fail
  clear hw0 hxc hyc
  go_loopw [30] (fun i wr => ∃ k : Nat, k ≤ es.length ∧ i = .int .i64 k ∧ Below w0.heap.size w0 wr) (fun i _ => es.length - (intOf i).toNat)
  case atStart => exact ⟨0, Nat.zero_le _, rfl, Below.refl _ _⟩
  case round =>
    obtain ⟨k, hk, rfl, hb⟩ := hrel
    have hs := hb.size
    have hbw := hb0.trans (hb.mono hs0)
    by_cases hkl : k < es.length
    · obtain ⟨a1, rfl, hl1, e1, e2⟩ := (h1.below hbw (Nat.le_refl _)).ent k hkl
      obtain ⟨a2, rfl, hl2, f1, f2⟩ := (h2.below hbw (Nat.le_refl _)).ent k hkl
      have hd : Below w0.heap.size w0 wr.drew := hb.trans (by go_grown)
      go_upto_region 6 with fail
      have hxd := ((hx0.below hb hxl).drew1).cell
      have hyd := ((hy0.below hb hyl).drew1).cell
      have e1' : wr.drew.cell? (a1.add (k * 2)) = _ := e1
      have e2' : wr.drew.cell? ⟨(a1.add (k * 2)).block, (a1.add (k * 2)).off + 1, none⟩ = _ := e2
      have f1' : wr.drew.cell? (a2.add (k * 2)) = _ := f1
      have f2' : wr.drew.cell? ⟨(a2.add (k * 2)).block, (a2.add (k * 2)).off + 1, none⟩ = _ := f2
      go_region
      go_wp2_with fail
      go_roundw
      case rel => exact ⟨k + 1, by omega, by go_num, hd⟩
      case measure => simp [intOf]; omega
    · go_wp2_with fail
      go_returns
      exact ⟨rfl, hbw⟩

set_option maxHeartbeats 1000000 in
theorem lCopied (A : Option Addr) (c : Nat) (es : List Ent) (caps : Nat) (blind : Bool) (w : World) (hr : Rd w w.heap.size A (entCells es)) (hn : es.length ≤ 256) :
    Calls Tryz.prog 19 #[.agg #[.slice A es.length c, .int .u32 (caps : Int), .bool blind]] w fun e w' => ∃ A' c', e = .returned (.agg #[.slice A' es.length c', .int .u32 (caps : Int), .bool blind]) ∧ Rd w' w'.heap.size A' (entCells es) ∧ Below w.heap.size w w' := by
  cases A with
  | none =>
    have hes : es = [] := by
      cases es with
      | nil => rfl
      | cons x t => obtain ⟨ad, h, _⟩ := hr.ent 0 (by simp); cases h
    subst hes
    go_enter Tryz.func19, Tryz.ntmps19
    go_wp2_with fail
    have hz : Blk (((w.alloc (.cells #[.slice none 0 c, .int .u32 (caps : Int), .bool blind] 32)).alloc (.cells #[.slice none 0 0, .int .u32 (caps : Int), .bool blind] 32)).alloc (.cells #[.slice none 0 0, .int .u32 (caps : Int), .bool blind] 32)) (w.heap.size + 1) 32 #[.slice none 0 0, .int .u32 (caps : Int), .bool blind] := (Blk.newAt _ _ rfl (by simp)).alloc _
    refine bodyPost_ret (resultsB0 sty32 rfl _ _ _ _ _ rfl hz rfl) rfl ?_
    exact ⟨none, 0, rfl, Rd.nil _ _ _, by go_grown⟩
  | some ad =>
    obtain ⟨W, hW⟩ : ∃ W, ((w.alloc (.cells #[.slice (some ad) es.length c, .int .u32 (caps : Int), .bool blind] 32)).alloc (.cells #[.slice none 0 0, .int .u32 0, .bool false] 32)).alloc (.cells #[.slice none 0 0, .int .u32 (caps : Int), .bool blind] 32) = W := ⟨_, rfl⟩
    have hbW : Below w.heap.size w W := by rw [← hW]; go_grown
    have hrW := hr.below hbW (Nat.le_refl _)
    have hz1 : Blk W (w.heap.size + 1) 32 #[.slice none 0 0, .int .u32 0, .bool false] := by rw [← hW]; exact (Blk.newAt _ _ rfl (by simp)).alloc _
    have hz2 : Blk W (w.heap.size + 1 + 1) 32 #[.slice none 0 0, .int .u32 (caps : Int), .bool blind] := by rw [← hW]; exact Blk.newAt _ _ rfl (by simp)
    have hx : Blk W w.heap.size 32 #[.slice (some ad) es.length c, .int .u32 (caps : Int), .bool blind] := by rw [← hW]; exact ((Blk.newAt _ _ rfl rfl).alloc _).alloc _
    have hzc := hz2.cell
    have hxc := hx.cell
    obtain ⟨i74, hi74, hz74, hs74, hb74⟩ := info_parts (show (Tryz.prog.info? 74).map (fun i => (i.zero, i.size, i.bytes)) = some (some (.agg #[.string ⟨#[]⟩, .string ⟨#[]⟩]), 2, 32) by kernel_rfl)
    have hone : ∀ u ∈ entCells es, u.oneCell' = true := by
      intro u hu
      obtain ⟨e, _, hu⟩ := List.mem_flatMap.1 hu
      simp only [entCell, List.mem_cons, List.not_mem_nil, or_false] at hu
      rcases hu with rfl | rfl <;> rfl
    have hn2 : w.heap.size + 1 ≠ w.heap.size + 1 + 1 := by omega
    go_enter Tryz.func19, Tryz.ntmps19
    go_wp2_with (first
      | (at_builtin; go_must (refine wpList_append_own W rfl (.tmp 10) (.tmp 12) 29 rfl W.heap.size 74 i74 _ 2 32 Tryz.underlying29 hi74 hz74 hs74 hb74 rfl (by decide) (.slice none 0 0) 0 [] rfl (World.ownsRow_nil _ _ _ _) ad es.length c (entCells es) rfl (flat_length entCell 2 (fun _ => rfl) es) (fun j u hj => by obtain ⟨a1, e, _, h⟩ := hrW j u hj; cases e; exact h) hone (by simp only [maxLen]; omega) (by omega) (Nat.le_refl _) ?_); intro v' w2 hown2 hg2 _; rw [Nat.zero_add, List.nil_append] at hown2; have hb2 : Below W.heap.size W w2 := (Below.refl _ _).grown hg2 (Nat.le_refl _) (fun q hq => by cases hq); obtain ⟨A2, c2, rfl, -, -, hr2⟩ := own_rd hown2; have hy2 := hz2.below hb2 hz2.lt; have hy1 := hz1.below hb2 hz1.lt; have hyc := hy2.cell; have hyf := hy2.frozen; have hy3 := hy2.set_ 0 (.slice A2 es.length c2); have hyc3 := hy3.cell; have hy4 := hy1.far (p := ⟨w.heap.size + 1 + 1, 0, none⟩) hn2 (.slice A2 es.length c2); have hr3 := hr2)
      | (refine storeB sty32 rfl (.tmp 2) (.tmp 15) rfl _ _ _ _ rfl hy4 rfl rfl rfl rfl ?_; intro w4 hz4 hw4; simp only [Act.put]))
    refine bodyPost_ret (resultsB0 sty32 rfl _ _ _ _ _ rfl hz4 rfl) rfl ?_
    have hg3 : w2.grownBy (w2.setCell ⟨w.heap.size + 1 + 1, 0, none⟩ (.slice A2 es.length c2)) (some (w.heap.size + 1 + 1)) := ⟨rfl, rfl, rfl, by simp [World.setCell], fun k _ hk => Below.heap_setCell w2 ⟨w.heap.size + 1 + 1, 0, none⟩ _ k (fun e => hk (by rw [e]))⟩
    have hzl := hz2.lt
    have ho3 := hown2.kept hg3 (.inr fun e => by have := (hown2.lt _ e).1; omega)
    have ho4 := own_wrote ho3 hw4 (fun e => by have := (ho3.lt _ e).1; omega)
    obtain ⟨A5, c5, e5, -, -, hr5⟩ := own_rd ho4
    cases e5
    have hb4 := (hbW.trans (hb2.mono hbW.size)).grown hg3 (by have := hb2.size; omega) (fun q hq => by cases hq; omega)
    exact ⟨A2, ⟨c2, rfl⟩, hr5, hw4.below hb4 (by omega)⟩
end Go.Proofs.YtkaoechldamggaaGreatDoor
