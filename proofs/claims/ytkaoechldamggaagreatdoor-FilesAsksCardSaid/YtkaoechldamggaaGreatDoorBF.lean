/- The law FilesAsks: the walk. -/
import Derived.Test.YtkaoechldamggaaGreatDoorBC
import Derived.Test.YtkaoechldamggaaGreatDoorBD
import Derived.Test.YtkaoechldamggaaGreatDoorAX
import Derived.Test.YtkaoechldamggaaGreatDoorAI
namespace Go.Proofs.YtkaoechldamggaaGreatDoor
open Go Go.RowKit
set_option maxRecDepth 100000

/-- Two stores of the same files in memory, behind the law's own blocks. -/
structure St2 (w : World) (bx by_ : Nat) (A A2 : Option Addr) (c c2 : Nat) (es : List Ent) (caps : Nat) (blind : Bool) (W : World) : Prop where
  b : Below w.heap.size w W
  x : Blk W bx 32 #[.slice A es.length c, .int .u32 (caps : Int), .bool blind]
  y : Blk W by_ 32 #[.slice A2 es.length c2, .int .u32 (caps : Int), .bool blind]
  r : Rd W W.heap.size A (entCells es)
  r2 : Rd W W.heap.size A2 (entCells es)
  e : Env W
section
variable {w W W' : World} {bx by_ : Nat} {A A2 : Option Addr} {c c2 : Nat} {es : List Ent} {caps : Nat} {blind : Bool}
theorem St2.step (h : St2 w bx by_ A A2 c c2 es caps blind W) (hb : Below W.heap.size W W') : St2 w bx by_ A A2 c c2 es caps blind W' :=
  ⟨h.b.trans (hb.mono h.b.size), h.x.below hb h.x.lt, h.y.below hb h.y.lt, (h.r.below hb (Nat.le_refl _)).more hb.size, (h.r2.below hb (Nat.le_refl _)).more hb.size, h.e.below hb⟩
theorem St2.alloc (h : St2 w bx by_ A A2 c c2 es caps blind W) (o : Obj) : St2 w bx by_ A A2 c c2 es caps blind (W.alloc o) := h.step ((Below.refl _ _).alloc (Nat.le_refl _) o)
end

theorem stInf_zero (es : List Ent) (p : Bs) : ∃ (s : Bs) (b : Bool) (n : Nat), (if stErr es p = 0 then stInf es p else zeroInf) = #[.string ⟨s.toArray⟩, .bool b, .int .i64 (n : Int)] := by
  split
  · exact stInf_cells es p
  · exact ⟨[], false, 0, rfl⟩

set_option maxHeartbeats 4000000 in
theorem lAsks (p : Bs) (A : Option Addr) (c : Nat) (es : List Ent) (caps : Nat) (blind : Bool) (w : World) (hr : Rd w w.heap.size A (entCells es)) (he : Env w) (hcaps : caps < 4294967296) (hp : p.length ≤ 140737488351232) (hes : ∀ e ∈ es, e.path.length ≤ 140737488351232 ∧ e.data.length ≤ 140737488351232) :
    Calls Tryz.prog 5 #[.agg #[.slice A es.length c, .int .u32 (caps : Int), .bool blind], .string ⟨p.toArray⟩] w fun e w' => e = .returned (.bool true) ∧ Below w.heap.size w w' := by
  obtain ⟨w0, hw0⟩ : ∃ w0, w.alloc (.cells #[.slice A es.length c, .int .u32 (caps : Int), .bool blind] 32) = w0 := ⟨_, rfl⟩
  have b0 : Below w.heap.size w w0 := by rw [← hw0]; go_grown
  have x0 : Blk w0 w.heap.size 32 #[.slice A es.length c, .int .u32 (caps : Int), .bool blind] := by rw [← hw0]; exact Blk.newAt _ _ rfl rfl
  have xc0 := x0.cell
  have r0 := (hr.below b0 (Nat.le_refl _)).more b0.size
  have e0 := he.below b0
  have cf := fun W (hr : Rd W W.heap.size A (entCells es)) (hW : Env W) => rfit A c es caps blind W hr hW hcaps hes
  have ca := fun W (hW : Env W) => paw W hW
  by_cases hF : FitP es caps
  · have hf := hF.fine
    have hn := hf.many
    have cf : ∀ W (hr : Rd W W.heap.size A (entCells es)) (hW : Env W), Calls Tryz.prog 14 #[.agg #[.slice A es.length c, .int .u32 (caps : Int), .bool blind]] W fun e w' => e = .returned (.bool true) ∧ Below W.heap.size W w' := fun W hr hW =>
      (cf W hr hW).mono fun e w' ⟨b, h1, h2, h3⟩ => ⟨by rw [h1, h2.2 hF], h3⟩
    have cc := fun W (hr : Rd W W.heap.size A (entCells es)) => lCopied A c es caps blind W hr hn
    obtain ⟨s, b, n, hin⟩ := stInf_zero es p
    have c1 := fun A c W (hr : Rd W W.heap.size A (entCells es)) (he : Env W) => pStat A c es caps blind p W hr hf he hcaps hp
    have c2 := fun W (hr : Rd W W.heap.size A (entCells es)) (he : Env W) => rStat A c es caps blind p W hr hf he hcaps hp
    rw [hin] at c1 c2
    have c3 := fun A c W (hr : Rd W W.heap.size A (entCells es)) (he : Env W) => pReadFile A c es caps blind p W hr hf he hcaps hp
    have c4 := fun W (hr : Rd W W.heap.size A (entCells es)) (he : Env W) => rReadFile A c es caps blind p W hr hf he hcaps hp
    have c5 := fun A c W (hr : Rd W W.heap.size A (entCells es)) (he : Env W) => pReadDir A c es caps blind p W hr hf he hcaps hp
    have c6 := fun W (hr : Rd W W.heap.size A (entCells es)) (he : Env W) => rReadDir A c es caps blind p W hr hf he hcaps hp
    have hl := rdDir_count hf p caps blind
    have q0 := asks_len caps 0 p
    have q1 := asks_len caps 1 p
    have q2 := asks_len caps 2 p
    generalize asksOf caps 0 p = qa at *
    generalize asksOf caps 1 p = qb at *
    generalize asksOf caps 2 p = qc at *
    generalize stErr es p = n1 at *
    generalize rdErr es p = n2 at *
    generalize rdDirErr es p caps blind = n3 at *
    generalize rdData es p = dd at *
    generalize rdDirLst es p caps blind = L at *
    have hdd : (dd == dd) = true := by simp
    have hss : (s == s) = true := by simp
    have hbb : (b == b) = true := by simp
    clear hF hin
    go_enter Tryz.func5, Tryz.ntmps5
    go_upto_region 4 with (first
      | (go_at_call 14; refine (cf _ r0 e0).mono ?_; rintro e w1 ⟨rfl, hb1⟩; have b1 := b0.trans (hb1.mono b0.size); have x1 := x0.below hb1 x0.lt; have xc1 := x1.cell; have r1 := (r0.below hb1 (Nat.le_refl _)).more hb1.size; have e1 := e0.below hb1)
      | (go_at_call 19; refine (cc _ r1).mono ?_; rintro e w2 ⟨A2, k2, rfl, hr2, hb2⟩))
    have s1 : St2 w w.heap.size w2.heap.size A A2 c k2 es caps blind (w2.alloc (.cells #[.slice A2 es.length k2, .int .u32 (caps : Int), .bool blind] 32)) :=
      ⟨(b1.trans (hb2.mono b1.size)).alloc (by have := b1.size; have := hb2.size; omega) _, (x1.below hb2 x1.lt).alloc _, Blk.newAt _ _ rfl rfl, ((r1.below hb2 (Nat.le_refl _)).below ((Below.refl _ _).alloc (Nat.le_refl _) _) hb2.size).more (by have := hb2.size; simp; omega), (hr2.below ((Below.refl _ _).alloc (Nat.le_refl _) _) (Nat.le_refl _)).more (by simp), (e1.below hb2).below ((Below.refl _ _).alloc (Nat.le_refl _) _)⟩
    generalize w2.alloc (.cells #[.slice A2 es.length k2, .int .u32 (caps : Int), .bool blind] 32) = w3 at s1 ⊢
    generalize w2.heap.size = g2 at s1 ⊢
    have xc1 := s1.x.cell
    have yc1 := s1.y.cell
    clear x0 xc0 r0 e0 b0 cf cc
    go_upto_region 5 with (go_at_call 20; refine (c1 A2 k2 _ s1.r2 s1.e).mono ?_; rintro e w4 ⟨v4, rfl, ho4, hb4⟩; have s2 := s1.step hb4)
    have s3 := s2.alloc (.cells #[.string ⟨s.toArray⟩, .bool b, .int .i64 (n : Int)] 45)
    have ho5 := ho4.alloc (.cells #[.string ⟨s.toArray⟩, .bool b, .int .i64 (n : Int)] 45)
    have i1 : Blk (w4.alloc (.cells #[.string ⟨s.toArray⟩, .bool b, .int .i64 (n : Int)] 45)) w4.heap.size 45 _ := Blk.newAt _ _ rfl rfl
    generalize w4.alloc (.cells #[.string ⟨s.toArray⟩, .bool b, .int .i64 (n : Int)] 45) = w5 at s3 ho5 i1 ⊢
    generalize w4.heap.size = g4 at i1 ⊢
    obtain ⟨A4, k4, rfl, -, -, -⟩ := own_rd ho5
    have xc3 := s3.x.cell
    have yc3 := s3.y.cell
    clear s1 s2 xc1 yc1 ho4 hb4
    go_upto_region 6 with (go_at_call 21; refine (c2 _ s3.r s3.e).mono ?_; rintro e w6 ⟨v6, rfl, ho6, hb6⟩; have s4 := s3.step hb6)
    have s5 := s4.alloc (.cells #[.string ⟨s.toArray⟩, .bool b, .int .i64 (n : Int)] 45)
    have ho7 := ho6.alloc (.cells #[.string ⟨s.toArray⟩, .bool b, .int .i64 (n : Int)] 45)
    have ho8 := (own_below ho5 hb6).alloc (.cells #[.string ⟨s.toArray⟩, .bool b, .int .i64 (n : Int)] 45)
    have i2 := (i1.below hb6 i1.lt).alloc (.cells #[.string ⟨s.toArray⟩, .bool b, .int .i64 (n : Int)] 45)
    have i3 : Blk (w6.alloc (.cells #[.string ⟨s.toArray⟩, .bool b, .int .i64 (n : Int)] 45)) w6.heap.size 45 _ := Blk.newAt _ _ rfl rfl
    generalize w6.alloc (.cells #[.string ⟨s.toArray⟩, .bool b, .int .i64 (n : Int)] 45) = w7 at s5 ho7 ho8 i2 i3 ⊢
    generalize w6.heap.size = g6 at i3 ⊢
    obtain ⟨A6, k6, rfl, -, -, hr7⟩ := own_rd ho7
    obtain ⟨A8, k8, e8, -, -, hr8⟩ := own_rd ho8
    cases e8
    have ic2 := i2.cell
    have ic3 := i3.cell
    clear s3 s4 xc3 yc3 ho6 hb6 i1 ho5
    go_upto_region 8 with (go_at_call 18; refine (lAskedEq _ _ _ _ qa _ hr8 hr7 (by omega)).mono ?_; rintro e w8 ⟨rfl, hb8⟩; have s6 := s5.step hb8)
    have xc6 := s6.x.cell
    have yc6 := s6.y.cell
    clear s5 ho7 ho8 i2 i3 ic2 ic3 hr7 hr8 c1 c2
    go_upto_region 9 with (go_at_call 22; refine (c3 A2 k2 _ s6.r2 s6.e).mono ?_; rintro e w9 ⟨v9, rfl, ho9, hb9⟩; have s7 := s6.step hb9; have xc7 := s7.x.cell; have yc7 := s7.y.cell)
    go_upto_region 10 with (go_at_call 23; refine (c4 _ s7.r s7.e).mono ?_; rintro e w10 ⟨v10, rfl, ho10, hb10⟩; have s8 := s7.step hb10)
    obtain ⟨A9, k9, rfl, -, -, hr9⟩ := own_rd (own_below ho9 hb10)
    obtain ⟨A10, k10, rfl, -, -, hr10⟩ := own_rd ho10
    clear xc6 yc6 xc7 yc7 s6 s7
    go_upto_region 12 with (go_at_call 18; refine (lAskedEq _ _ _ _ qb _ hr9 hr10 (by omega)).mono ?_; rintro e w11 ⟨rfl, hb11⟩; have s9 := s8.step hb11)
    have xc9 := s9.x.cell
    have yc9 := s9.y.cell
    clear s8 ho9 ho10 hr9 hr10 c3 c4
    go_upto_region 13 with (go_at_call 24; refine (c5 A2 k2 _ s9.r2 s9.e).mono ?_; rintro e w12 ⟨u12, v12, rfl, hi12, ho12, hb12⟩; have s10 := s9.step hb12; have xc10 := s10.x.cell; have yc10 := s10.y.cell)
    go_upto_region 14 with (go_at_call 25; refine (c6 _ s10.r s10.e).mono ?_; rintro e w13 ⟨u13, v13, rfl, hi13, ho13, hb13⟩; have s11 := s10.step hb13)
    obtain ⟨B1, m1, rfl, -, -, t1⟩ := own_rd (own_below hi12 hb13)
    obtain ⟨B2, m2, rfl, -, -, t2⟩ := own_rd hi13
    obtain ⟨B3, m3, rfl, -, -, t3⟩ := own_rd (own_below ho12 hb13)
    obtain ⟨B4, m4, rfl, -, -, t4⟩ := own_rd ho13
    clear xc9 yc9 xc10 yc10 s9 s10
    go_wp2_with (first
      | (go_at_call 26; refine (lInfosEq _ _ _ _ L _ t1 t2 (by omega)).mono ?_; rintro e w14 ⟨rfl, hb14⟩; have s12 := s11.step hb14; have t5 := (t3.below hb14 (Nat.le_refl _)).more hb14.size; have t6 := (t4.below hb14 (Nat.le_refl _)).more hb14.size)
      | (go_at_call 18; refine (lAskedEq _ _ _ _ qc _ t5 t6 (by omega)).mono ?_; rintro e w15 ⟨rfl, hb15⟩; have s13 := s12.step hb15; have xc13 := s13.x.cell; have yc13 := s13.y.cell)
      | (go_at_call 27; refine (lSameEq _ _ _ _ es caps blind _ s13.r2 s13.r (by omega)).mono ?_; rintro e w16 ⟨rfl, hb16⟩; have s14 := s13.step hb16)
      | (go_at_call 11; refine (ca _ s14.e).mono ?_; rintro e w17 ⟨rfl, hb17⟩))
    go_returns
    exact ⟨rfl, s14.b.trans (hb17.mono s14.b.size)⟩
  · have cf : ∀ W (hr : Rd W W.heap.size A (entCells es)) (hW : Env W), Calls Tryz.prog 14 #[.agg #[.slice A es.length c, .int .u32 (caps : Int), .bool blind]] W fun e w' => e = .returned (.bool false) ∧ Below W.heap.size W w' := fun W hr hW =>
      (cf W hr hW).mono fun e w' ⟨b, h1, h2, h3⟩ => ⟨by cases b with | false => exact h1 | true => exact absurd (h2.1 rfl) hF, h3⟩
    clear hF
    go_enter Tryz.func5, Tryz.ntmps5
    go_wp2_with (first
      | (go_at_call 14; refine (cf _ r0 e0).mono ?_; rintro e w1 ⟨rfl, hb1⟩; have b1 := b0.trans (hb1.mono b0.size); have e1 := e0.below hb1)
      | (go_at_call 11; refine (ca _ e1).mono ?_; rintro e w2 ⟨rfl, hb2⟩))
    go_returns
    exact ⟨rfl, b1.trans (hb2.mono b1.size)⟩
end Go.Proofs.YtkaoechldamggaaGreatDoor
