/- Plain: what is told of a store that is not blind does not hang on what it can do. The law FilesSame: the walk. FilesSame: for every store, other abilities, path and pattern the law returns true: the row, proved. FilesSame: for every store, other abilities, path and pattern the law returns true: the tied card, proved. -/
import Derived.Test.YtkaoechldamggaaGreatDoorCF
import Derived.Test.YtkaoechldamggaaGreatDoorBC
import Derived.Test.YtkaoechldamggaaGreatDoorAI
import Derived.Test.YtkaoechldamggaaGreatDoorAW
import Derived.Test.YtkaoechldamggaaGreatDoorAV
import Derived.Test.YtkaoechldamggaaGreatDoorAZ
import Derived.Test.YtkaoechldamggaaGreatDoorTie
import Derived.Test.YtkaoechldamggaaGreatDoorCards
import Derived.SevenTiedAt
namespace Go.Proofs.YtkaoechldamggaaGreatDoor
open Go

theorem dirErr_free (es : List Ent) (p : Bs) (c c' : Nat) : rdDirErr es p c false = rdDirErr es p c' false := by unfold rdDirErr; simp
theorem dirLst_free (es : List Ent) (p : Bs) (c c' : Nat) : rdDirLst es p c false = rdDirLst es p c' false := by unfold rdDirLst; simp
theorem globL_free (es : List Ent) (c c' : Nat) (p : Bs) : globL es c false p = globL es c' false p := by
  have h : (fun d => rdDirLst es d c false) = fun d => rdDirLst es d c' false := funext fun d => dirLst_free es d c c'
  unfold globL handL handF
  simp only [Bool.false_and]
  rw [h]
theorem goL_free {f g : Inf → WR} (h : ∀ x, (f x).paths = (g x).paths ∧ (f x).out = (g x).out) : ∀ l, (goL f l).paths = (goL g l).paths ∧ (goL f l).out = (goL g l).out := by
  intro l
  induction l with
  | nil => exact ⟨rfl, rfl⟩
  | cons x l ih =>
    unfold goL
    rw [(h x).2]
    split
    · exact ⟨by show _ ++ _ = _ ++ _; rw [(h x).1, ih.1], ih.2⟩
    · exact ⟨(h x).1, rfl⟩
theorem walk_free (es : List Ent) (c c' : Nat) (skip : List Bs) : ∀ (n : Nat) (p : Bs) (dir : Bool), (walkF es c false skip n p dir).paths = (walkF es c' false skip n p dir).paths ∧ (walkF es c false skip n p dir).out = (walkF es c' false skip n p dir).out := by
  intro n
  induction n with
  | zero => intro p dir; exact ⟨rfl, rfl⟩
  | succ n ih =>
    intro p dir
    unfold walkF
    rw [dirErr_free es p c c', dirLst_free es p c c']
    have hg := goL_free (f := fun x => walkF es c false skip n (join p x.name) x.dir) (g := fun x => walkF es c' false skip n (join p x.name) x.dir) (fun x => ih _ _) (rdDirLst es p c' false)
    split
    · exact ⟨rfl, rfl⟩
    · split
      · exact ⟨rfl, rfl⟩
      · split
        · exact ⟨by show _ :: _ = _ :: _; rw [hg.1], hg.2⟩
        · exact ⟨rfl, rfl⟩
theorem wRes_free (es : List Ent) (c c' : Nat) (skip : List Bs) (p : Bs) : (wRes es c false skip p).paths = (wRes es c' false skip p).paths ∧ (wRes es c false skip p).out = (wRes es c' false skip p).out := by
  have h := walk_free es c c' skip 1026 p (dirK (look es p))
  unfold wRes
  split
  · exact ⟨h.1, by show errN _ = errN _; rw [h.2]⟩
  · exact ⟨rfl, rfl⟩
theorem u32_and_31 (n : Nat) (h : n < 4294967296) : bits .and .u32 (n : Int) 31 = ((n % 32 : Nat) : Int) := by
  have hx : n &&& 31 = n % 32 := Nat.and_two_pow_sub_one_eq_mod n 5
  show IntKind.u32.wrap ((BitVec.ofInt 32 (n : Int) &&& BitVec.ofInt 32 31).toNat : Int) = _
  have e1 : (BitVec.ofInt 32 (n : Int)).toNat = n := by
    rw [BitVec.ofInt_natCast, BitVec.toNat_ofNat]; exact Nat.mod_eq_of_lt (by omega)
  have e2 : (BitVec.ofInt 32 (31 : Int)).toNat = 31 := by decide
  rw [BitVec.toNat_and, e1, e2, hx, IntKind.wrap_u32]
  omega
end Go.Proofs.YtkaoechldamggaaGreatDoor
namespace Go.Proofs.YtkaoechldamggaaGreatDoor
open Go Go.RowKit
set_option maxRecDepth 100000

/-- Two stores of the same files in memory, that can do different things; the variables. -/
structure St4 (w : World) (bx by_ : Nat) (A A2 : Option Addr) (c c2 : Nat) (es : List Ent) (caps caps2 : Nat) (b : Addr) (W : World) : Prop where
  bw : Below w.heap.size w W
  x : Blk W bx 32 #[.slice A es.length c, .int .u32 (caps : Int), .bool false]
  y : Blk W by_ 32 #[.slice A2 es.length c2, .int .u32 (caps2 : Int), .bool false]
  r : Rd W W.heap.size A (entCells es)
  r2 : Rd W W.heap.size A2 (entCells es)
  e : Env W
  k : W.cell? ⟨0, 0, none⟩ = some (.iface 263 (.pointer (some b)))
section
variable {w W W' : World} {bx by_ : Nat} {A A2 : Option Addr} {c c2 : Nat} {es : List Ent} {caps caps2 : Nat} {b : Addr}
theorem St4.step (h : St4 w bx by_ A A2 c c2 es caps caps2 b W) (hb : Below W.heap.size W W') : St4 w bx by_ A A2 c c2 es caps caps2 b W' :=
  ⟨h.bw.trans (hb.mono h.bw.size), h.x.below hb h.x.lt, h.y.below hb h.y.lt, (h.r.below hb (Nat.le_refl _)).more hb.size, (h.r2.below hb (Nat.le_refl _)).more hb.size, h.e.below hb, (hb.cell (p := ⟨0, 0, none⟩) (World.block_lt_of_cell? W _ h.k)).trans h.k⟩
theorem St4.alloc (h : St4 w bx by_ A A2 c c2 es caps caps2 b W) (o : Obj) : St4 w bx by_ A A2 c c2 es caps caps2 b (W.alloc o) := h.step ((Below.refl _ _).alloc (Nat.le_refl _) o)
end
theorem stInf_zero_ (es : List Ent) (p : Bs) : ∃ (s : Bs) (b : Bool) (n : Nat), (if stErr es p = 0 then stInf es p else zeroInf) = #[.string ⟨s.toArray⟩, .bool b, .int .i64 (n : Int)] := by
  split
  · exact stInf_cells es p
  · exact ⟨[], false, 0, rfl⟩

set_option maxHeartbeats 4000000 in
theorem lSame (n2 : Nat) (p q : Bs) (A : Option Addr) (c : Nat) (es : List Ent) (caps : Nat) (blind : Bool) (b : Addr) (w : World) (hr : Rd w w.heap.size A (entCells es)) (he : Env w) (hs : w.cell? ⟨0, 0, none⟩ = some (.iface 263 (.pointer (some b)))) (hcaps : caps < 4294967296) (hn2 : n2 < 4294967296) (hp : p.length ≤ 140737488351232) (hq : q.length ≤ 140737488351232) (hes : ∀ e ∈ es, e.path.length ≤ 140737488351232 ∧ e.data.length ≤ 140737488351232) :
    Calls Tryz.prog 9 #[.agg #[.slice A es.length c, .int .u32 (caps : Int), .bool blind], .int .u32 (n2 : Int), .string ⟨p.toArray⟩, .string ⟨q.toArray⟩] w fun e w' => e = .returned (.bool true) ∧ Below w.heap.size w w' := by
  obtain ⟨w0, hw0⟩ : ∃ w0, (w.alloc (.cells #[.slice A es.length c, .int .u32 (caps : Int), .bool blind] 32)).setCell ⟨w.heap.size, 2, none⟩ (.bool false) = w0 := ⟨_, rfl⟩
  have b0 : Below w.heap.size w w0 := by rw [← hw0]; exact ((Below.refl _ _).alloc (Nat.le_refl _) _).setCell (by simp) _
  have x0 : Blk w0 w.heap.size 32 #[.slice A es.length c, .int .u32 (caps : Int), .bool false] := by rw [← hw0]; exact (Blk.newAt 32 _ rfl rfl).set_ 2 (.bool false)
  have xc0 := x0.cell
  have r0 := (hr.below b0 (Nat.le_refl _)).more b0.size
  have e0 := he.below b0
  have k0 := (b0.cell (p := ⟨0, 0, none⟩) (World.block_lt_of_cell? w _ hs)).trans hs
  have cf := fun W (hr : Rd W W.heap.size A (entCells es)) (hW : Env W) => rfit A c es caps false W hr hW hcaps hes
  have ca := fun W (hW : Env W) => paw W hW
  by_cases hF : FitP es caps
  · have cf : ∀ W (hr : Rd W W.heap.size A (entCells es)) (hW : Env W), Calls Tryz.prog 14 #[.agg #[.slice A es.length c, .int .u32 (caps : Int), .bool false]] W fun e w' => e = .returned (.bool true) ∧ Below W.heap.size W w' := fun W hr hW =>
      (cf W hr hW).mono fun e w' ⟨b, h1, h2, h3⟩ => ⟨by rw [h1, h2.2 hF], h3⟩
    by_cases hl : 1024 < q.length
    · have hd1 : decide ((1024 : Int) < (q.length : Int)) = true := decide_eq_true (by omega)
      go_enter Tryz.func9, Tryz.ntmps9
      go_wp2_with (first
        | (go_at_call 14; refine (cf _ r0 e0).mono ?_; rintro e w1 ⟨rfl, hb1⟩; have b1 := b0.trans (hb1.mono b0.size); have e1 := e0.below hb1)
        | (go_at_call 11; refine (ca _ e1).mono ?_; rintro e w2 ⟨rfl, hb2⟩))
      go_returns
      exact ⟨rfl, b1.trans (hb2.mono b1.size)⟩
    · have hd1 : decide ((1024 : Int) < (q.length : Int)) = false := decide_eq_false (by omega)
      have hf := hF.fine
      have hn := hf.many
      have hand := u32_and_31 n2 hn2
      have hcaps2 : n2 % 32 < 4294967296 := by omega
      generalize n2 % 32 = m2 at hand hcaps2
      have cc := fun W (hr : Rd W W.heap.size A (entCells es)) => lCopied A c es caps false W hr hn
      obtain ⟨s, bb, n, hin⟩ := stInf_zero_ es p
      have c1 := fun A c (cp : Nat) (hc : cp < 4294967296) W (hr : Rd W W.heap.size A (entCells es)) (he : Env W) => pStat A c es cp false p W hr hf he hc hp
      rw [hin] at c1
      have c3 := fun A c (cp : Nat) (hc : cp < 4294967296) W (hr : Rd W W.heap.size A (entCells es)) (he : Env W) => pReadFile A c es cp false p W hr hf he hc hp
      have hL := rdDir_count hf p 0 false
      have hG : (globL es 0 false q).length ≤ 262400 := by
        unfold globL handL handF
        split
        · exact hand_len (rdDir_ok es 0 _) hf.many (fun e he => (hf.each e he).1) _ _ _ _
        · simp
      have hR := (wRes_len hF 0 false [] p).1
      have c5 : ∀ (A : Option Addr) (c cp : Nat) (_ : cp < 4294967296) (W : World) (_ : Rd W W.heap.size A (entCells es)) (_ : Env W), Calls Tryz.prog 24 #[.agg #[.slice A es.length c, .int .u32 (cp : Int), .bool false], .string ⟨p.toArray⟩] W fun e w' => ∃ u v, e = .returned (.tuple #[u, v, .int .i64 (rdDirErr es p 0 false : Int)]) ∧ Infs w' W.heap.size u (rdDirLst es p 0 false) ∧ Below W.heap.size W w' :=
        fun A c cp hc W hr he => (pReadDir A c es cp false p W hr hf he hc hp).mono fun e w' ⟨u, v, h1, h2, _, h3⟩ => ⟨u, v, by rw [h1, dirErr_free es p cp 0], by rw [← dirLst_free es p cp 0]; exact h2, h3⟩
      have c6 : ∀ (A : Option Addr) (c cp : Nat) (_ : cp < 4294967296) (W : World) (_ : Rd W W.heap.size A (entCells es)) (_ : Env W), Calls Tryz.prog 15 #[.agg #[.slice A es.length c, .int .u32 (cp : Int), .bool false], .string ⟨q.toArray⟩] W fun e w' => ∃ u v, e = .returned (.tuple #[u, v, .int .i64 (globErr q : Int)]) ∧ w'.ownsRow W.heap.size 9 1 u (globL es 0 false q).length (strCells (globL es 0 false q)) ∧ Below W.heap.size W w' :=
        fun A c cp hc W hr he => (pGlob A c es cp false q W hr hf he hc (by omega)).mono fun e w' ⟨u, v, h1, h2, h3⟩ => ⟨u, v, h1, by rw [← globL_free es cp 0]; exact h2, h3⟩
      have c7 : ∀ (A : Option Addr) (c cp : Nat) (_ : cp < 4294967296) (W : World) (_ : Rd W W.heap.size A (entCells es)) (_ : Env W) (_ : W.cell? ⟨0, 0, none⟩ = some (.iface 263 (.pointer (some b)))), Calls Tryz.prog 33 #[.agg #[.slice A es.length c, .int .u32 (cp : Int), .bool false], .string ⟨p.toArray⟩, .slice none 0 0] W fun e w' => ∃ u v, e = .returned (.tuple #[u, v, .int .i64 ((wRes es 0 false [] p).out : Int)]) ∧ w'.ownsRow W.heap.size 9 1 u (wRes es 0 false [] p).paths.length (strCells (wRes es 0 false [] p).paths) ∧ Below W.heap.size W w' :=
        fun A c cp hc W hr he hk => (pWalk A none c 0 caps es cp false [] p b W hr (Rd.nil _ _ _) hF he hk hc hp (by simp)).mono fun e w' ⟨u, v, h1, h2, _, h3⟩ => ⟨u, v, by rw [h1, (wRes_free es cp 0 [] p).2], by rw [← (wRes_free es cp 0 [] p).1]; exact h2, h3⟩
      generalize stErr es p = n1 at *
      generalize rdErr es p = n2' at *
      generalize rdDirErr es p 0 false = n3 at *
      generalize globErr q = n4 at *
      generalize rdData es p = dd at *
      generalize rdDirLst es p 0 false = L at *
      generalize globL es 0 false q = G at *
      generalize (wRes es 0 false [] p).out = n5 at *
      generalize (wRes es 0 false [] p).paths = R at *
      have hdd : (dd == dd) = true := by simp
      have hss : (s == s) = true := by simp
      have hbb : (bb == bb) = true := by simp
      clear hF hin
      go_enter Tryz.func9, Tryz.ntmps9
      go_upto_region 4 with (go_at_call 14; refine (cf _ r0 e0).mono ?_; rintro e w1 ⟨rfl, hb1⟩; have b1 := b0.trans (hb1.mono b0.size); have x1 := x0.below hb1 x0.lt; have xc1 := x1.cell; have r1 := (r0.below hb1 (Nat.le_refl _)).more hb1.size; have e1 := e0.below hb1; have k1 := (hb1.cell (p := ⟨0, 0, none⟩) (World.block_lt_of_cell? _ _ k0)).trans k0)
      go_upto_region 6 with (go_at_call 19; refine (cc _ r1).mono ?_; rintro e w2 ⟨A2, kk2, rfl, hr2, hb2⟩)
      obtain ⟨w3, hw3⟩ : ∃ w3, w2.alloc (.cells #[.slice A2 es.length kk2, .int .u32 (m2 : Int), .bool false] 32) = w3 := ⟨_, rfl⟩
      have b3 : Below w2.heap.size w2 w3 := by rw [← hw3]; exact (Below.refl _ _).alloc (Nat.le_refl _) _
      have y3 : Blk w3 w2.heap.size 32 #[.slice A2 es.length kk2, .int .u32 (m2 : Int), .bool false] := by rw [← hw3]; exact Blk.newAt 32 _ rfl rfl
      have hb3 := hb2.trans (b3.mono hb2.size)
      have s1 : St4 w w.heap.size w2.heap.size A A2 c kk2 es caps m2 b w3 :=
        ⟨b1.trans (hb3.mono b1.size), x1.below hb3 x1.lt, y3, (r1.below hb3 (Nat.le_refl _)).more hb3.size, (hr2.below b3 (Nat.le_refl _)).more b3.size, e1.below hb3, (hb3.cell (p := ⟨0, 0, none⟩) (World.block_lt_of_cell? _ _ k1)).trans k1⟩
      rw [hw3]
      generalize w2.heap.size = g2 at s1 ⊢
      have xc1 := s1.x.cell
      have yc1 := s1.y.cell
      clear x0 xc0 r0 e0 b0 cf cc hw0 hw3 b3 y3 hb3 b1 x1 r1 e1 k1 k0 hb1 hb2 hr2
      go_upto_region 7 with (go_at_call 20; refine (c1 A c caps hcaps _ s1.r s1.e).mono ?_; rintro e w4 ⟨v4, rfl, ho4, hb4⟩; have s2 := s1.step hb4)
      have s3 := s2.alloc (.cells #[.string ⟨s.toArray⟩, .bool bb, .int .i64 (n : Int)] 45)
      have i1 : Blk (w4.alloc (.cells #[.string ⟨s.toArray⟩, .bool bb, .int .i64 (n : Int)] 45)) w4.heap.size 45 _ := Blk.newAt _ _ rfl rfl
      generalize w4.alloc (.cells #[.string ⟨s.toArray⟩, .bool bb, .int .i64 (n : Int)] 45) = w5 at s3 i1 ⊢
      generalize w4.heap.size = g4 at i1 ⊢
      have xc3 := s3.x.cell
      have yc3 := s3.y.cell
      clear s1 s2 xc1 yc1 ho4 hb4
      go_upto_region 8 with (go_at_call 20; refine (c1 A2 kk2 m2 hcaps2 _ s3.r2 s3.e).mono ?_; rintro e w6 ⟨v6, rfl, ho6, hb6⟩; have s4 := s3.step hb6)
      have s5 := s4.alloc (.cells #[.string ⟨s.toArray⟩, .bool bb, .int .i64 (n : Int)] 45)
      have i2 := (i1.below hb6 i1.lt).alloc (.cells #[.string ⟨s.toArray⟩, .bool bb, .int .i64 (n : Int)] 45)
      have i3 : Blk (w6.alloc (.cells #[.string ⟨s.toArray⟩, .bool bb, .int .i64 (n : Int)] 45)) w6.heap.size 45 _ := Blk.newAt _ _ rfl rfl
      generalize w6.alloc (.cells #[.string ⟨s.toArray⟩, .bool bb, .int .i64 (n : Int)] 45) = w7 at s5 i2 i3 ⊢
      generalize w6.heap.size = g6 at i3 ⊢
      have xc5 := s5.x.cell
      have yc5 := s5.y.cell
      clear s3 s4 xc3 yc3 ho6 hb6 i1 c1
      go_upto_region 9 with (go_at_call 22; refine (c3 A c caps hcaps _ s5.r s5.e).mono ?_; rintro e w8 ⟨v8, rfl, ho8, hb8⟩; have s6 := s5.step hb8; have xc6 := s6.x.cell; have yc6 := s6.y.cell)
      go_upto_region 10 with (go_at_call 22; refine (c3 A2 kk2 m2 hcaps2 _ s6.r2 s6.e).mono ?_; rintro e w9 ⟨v9, rfl, ho9, hb9⟩; have s7 := s6.step hb9; have xc7 := s7.x.cell; have yc7 := s7.y.cell; have i4 := (i2.below hb8 i2.lt).below hb9 (i2.below hb8 i2.lt).lt; have i5 := (i3.below hb8 i3.lt).below hb9 (i3.below hb8 i3.lt).lt; have ic4 := i4.cell; have ic5 := i5.cell)
      clear s5 s6 xc5 yc5 xc6 yc6 ho8 ho9 hb8 hb9 i2 i3 c3
      go_upto_region 12 with fail
      clear i4 i5 ic4 ic5
      go_upto_region 13 with (go_at_call 24; refine (c5 A c caps hcaps _ s7.r s7.e).mono ?_; rintro e w10 ⟨u10, v10, rfl, hi10, hb10⟩; have s8 := s7.step hb10; have xc8 := s8.x.cell; have yc8 := s8.y.cell)
      go_upto_region 14 with (go_at_call 24; refine (c5 A2 kk2 m2 hcaps2 _ s8.r2 s8.e).mono ?_; rintro e w11 ⟨u11, v11, rfl, hi11, hb11⟩; have s9 := s8.step hb11)
      obtain ⟨B1, m1, rfl, -, -, t1⟩ := own_rd (own_below hi10 hb11)
      obtain ⟨B2, m3, rfl, -, -, t2⟩ := own_rd hi11
      clear s7 s8 xc7 yc7 xc8 yc8 hi10 hi11 hb10 hb11 c5
      go_upto_region 16 with (go_at_call 26; refine (lInfosEq _ _ _ _ L _ t1 t2 (by omega)).mono ?_; rintro e w12 ⟨rfl, hb12⟩; have s10 := s9.step hb12; have xc10 := s10.x.cell; have yc10 := s10.y.cell)
      clear s9 t1 t2 hb12
      go_upto_region 17 with (go_at_call 15; refine (c6 A c caps hcaps _ s10.r s10.e).mono ?_; rintro e w13 ⟨u13, v13, rfl, hi13, hb13⟩; have s11 := s10.step hb13; have xc11 := s11.x.cell; have yc11 := s11.y.cell)
      go_upto_region 18 with (go_at_call 15; refine (c6 A2 kk2 m2 hcaps2 _ s11.r2 s11.e).mono ?_; rintro e w14 ⟨u14, v14, rfl, hi14, hb14⟩; have s12 := s11.step hb14)
      obtain ⟨B3, m4, rfl, -, -, t3⟩ := own_rd (own_below hi13 hb14)
      obtain ⟨B4, m5, rfl, -, -, t4⟩ := own_rd hi14
      clear s10 s11 xc10 yc10 xc11 yc11 hi13 hi14 hb13 hb14 c6
      go_upto_region 20 with (go_at_call 17; refine (lTextsEq _ _ _ _ G _ t3 t4 (by omega)).mono ?_; rintro e w15 ⟨rfl, hb15⟩; have s13 := s12.step hb15; have xc13 := s13.x.cell; have yc13 := s13.y.cell)
      clear s12 t3 t4 hb15
      go_upto_region 21 with (go_at_call 33; refine (c7 A c caps hcaps _ s13.r s13.e s13.k).mono ?_; rintro e w16 ⟨u16, v16, rfl, hi16, hb16⟩; have s14 := s13.step hb16; have xc14 := s14.x.cell; have yc14 := s14.y.cell)
      go_upto_region 22 with (go_at_call 33; refine (c7 A2 kk2 m2 hcaps2 _ s14.r2 s14.e s14.k).mono ?_; rintro e w17 ⟨u17, v17, rfl, hi17, hb17⟩; have s15 := s14.step hb17)
      obtain ⟨B5, m6, rfl, -, -, t5⟩ := own_rd (own_below hi16 hb17)
      obtain ⟨B6, m7, rfl, -, -, t6⟩ := own_rd hi17
      clear s13 s14 xc13 yc13 xc14 yc14 hi16 hi17 hb16 hb17 c7
      go_wp2_with (first
        | (go_at_call 17; refine (lTextsEq _ _ _ _ R _ t5 t6 (by omega)).mono ?_; rintro e w18 ⟨rfl, hb18⟩; have s16 := s15.step hb18)
        | (go_at_call 11; refine (ca _ s16.e).mono ?_; rintro e w19 ⟨rfl, hb19⟩))
      go_returns
      exact ⟨rfl, s16.bw.trans (hb19.mono s16.bw.size)⟩
  · have cf : ∀ W (hr : Rd W W.heap.size A (entCells es)) (hW : Env W), Calls Tryz.prog 14 #[.agg #[.slice A es.length c, .int .u32 (caps : Int), .bool false]] W fun e w' => e = .returned (.bool false) ∧ Below W.heap.size W w' := fun W hr hW =>
      (cf W hr hW).mono fun e w' ⟨b, h1, h2, h3⟩ => ⟨by cases b with | false => exact h1 | true => exact absurd (h2.1 rfl) hF, h3⟩
    clear hF
    go_enter Tryz.func9, Tryz.ntmps9
    go_wp2_with (first
      | (go_at_call 14; refine (cf _ r0 e0).mono ?_; rintro e w1 ⟨rfl, hb1⟩; have b1 := b0.trans (hb1.mono b0.size); have e1 := e0.below hb1)
      | (go_at_call 11; refine (ca _ e1).mono ?_; rintro e w2 ⟨rfl, hb2⟩))
    go_returns
    exact ⟨rfl, b1.trans (hb2.mono b1.size)⟩
end Go.Proofs.YtkaoechldamggaaGreatDoor
namespace Go.Proofs.YtkaoechldamggaaGreatDoor
open Go Go.ChangeShapes Go.WideShapes Go.ChangeAt Go.RowKit Go.ChangeMaps
set_option maxRecDepth 100000

theorem filesSame_witness (os : Os) {H : Type} (enc : TypeId × Value → H) :
    (OpenSpec.ofChange Rows.filesSameSpec).preRow enc Tryz.prog Tryz.f9 Rows.filesSameRow.domain false Rows.filesSameRow.laid ((skipWorld os).forCall (fun _ _ => 0) ⟨#[], #[.agg #[.slice none 0 0, .int .u32 0, .bool false], .int .u32 0, .string ⟨#[]⟩, .string ⟨#[]⟩], []⟩).memory #[.agg #[.slice none 0 0, .int .u32 0, .bool false], .int .u32 0, .string ⟨#[]⟩, .string ⟨#[]⟩] := by
  have hw : (DataW.whole enc Tryz.prog ((skipWorld os).forCall (fun _ _ => 0) ⟨#[], #[.agg #[.slice none 0 0, .int .u32 0, .bool false], .int .u32 0, .string ⟨#[]⟩, .string ⟨#[]⟩], []⟩).memory Tryz.f9.params.toList (OpenSpec.ofChange Rows.filesSameSpec).vars false #[Value.agg #[.slice none 0 0, .int .u32 0, .bool false], Value.int .u32 0, Value.string ⟨#[]⟩, Value.string ⟨#[]⟩].toList 8).map (fun x => (x.1, x.2.1)) =
      some ([.agg [.nil, .lit (.int .u32 0), .lit (.bool false)], .lit (.int .u32 0), .lit (.string []), .lit (.string [])], []) := by kernel_rfl
  obtain ⟨⟨x1, x2, x3⟩, hx, hx1⟩ := Option.map_eq_some_iff.1 hw
  simp only [Prod.mk.injEq] at hx1
  obtain ⟨rfl, rfl⟩ := hx1
  exact OpenSpec.preRow_of_cond 8 hx (by kernel_rfl) (fun k hk => by cases hk) (by kernel_rfl) (skipWorld_met os _)

set_option maxHeartbeats 2000000 in
theorem filesSame_lifted (os : Os) (started : os.Started) (H : Type) (enc : TypeId × Value → H) (F : Stop.Interp) :
    ReturnsInHanded {} Tryz.checked os 9 .any ((OpenSpec.ofChange Rows.filesSameSpec).preRow enc Tryz.prog Tryz.f9 Rows.filesSameRow.domain false Rows.filesSameRow.laid) (((OpenSpec.ofChange Rows.filesSameSpec).at F).post enc Tryz.prog Tryz.f9 false true false false) := by
  refine returnsInHanded_of_row (C := Tryz.checked) (s := OpenSpec.ofChange Rows.filesSameSpec) own started (by kernel_rfl) Tryz.func9
    (witness_row_at (enc := enc) (C := Tryz.checked) false (skipWorld os) #[.agg #[.slice none 0 0, .int .u32 0, .bool false], .int .u32 0, .string ⟨#[]⟩, .string ⟨#[]⟩] rfl (by kernel_rfl) (by kernel_rfl) (by kernel_rfl) (filesSame_witness os enc)) ?_
  intro W base args ds gs before hval0 hW _ _ hsz0 hL hsh _
  have hsz : (DataW.weightsEach Tryz.prog (Tryz.f9.params.toList ++ (OpenSpec.ofChange Rows.filesSameSpec).bare.plain.varTypes Tryz.prog) (ds ++ gs)).all (· ≤ reachBytes) = true := hsz0
  have hval : ∀ (j : Nat) t v, Tryz.f9.params[j]? = some t → args[j]? = some v → Value.okWide Tryz.prog W .any base t v := hval0
  have hW' := hW
  obtain ⟨p, q, hA0, hV0, rfl, _, _⟩ := hW
  have hA : DataW.TrodAll enc Tryz.prog W 0 (fun _ => true) true Tryz.f9.params.toList args.toList ds p := hA0
  rw [Tryz.params9] at hA hval hsz
  obtain ⟨v0, v1, v2, v3, d0, d1, d2, d3, p0, p1, p2, p3, rfl, rfl, rfl, h0, h1, h2, h3⟩ := trodAll_four hA
  obtain ⟨rfl, rfl⟩ := trodVars_none hV0
  simp only [List.append_nil] at hW'
  have hlt : ∀ x ∈ p0 ++ p1 ++ p2 ++ p3, x.block < W.heap.size := fun x hx => by simpa using hW'.lt x hx
  obtain ⟨he, bk, hk⟩ := env_skip hL hsh
  obtain ⟨A, c, es, caps, blind, e0a, hr, hcaps, hwe⟩ := open_store (hval 0 32 v0 rfl rfl) h0
  subst e0a
  obtain ⟨x1, e1a, e1b, -, hw1⟩ := open_int Tryz.underlying30 (hval 1 30 v1 rfl rfl) h1
  subst e1a e1b
  have hx1 : 0 ≤ x1 ∧ x1 < 4294967296 := by
    have h1 : IntKind.u32.min ≤ x1 ∧ x1 ≤ IntKind.u32.max := by simpa [Lit.wf] using hw1
    have h2 : IntKind.u32.min = 0 := by decide
    have h3 : IntKind.u32.max = 4294967295 := by decide
    omega
  obtain ⟨n1, rfl⟩ : ∃ n : Nat, x1 = (n : Int) := ⟨x1.toNat, by omega⟩
  obtain ⟨s2, e2a, e2b, -, -⟩ := open_string Tryz.underlying9 (hval 2 9 v2 rfl rfl) h2
  subst e2a e2b
  obtain ⟨s3, e3a, e3b, -, -⟩ := open_string Tryz.underlying9 (hval 3 9 v3 rfl rfl) h3
  subst e3a e3b
  have hall := List.all_eq_true.1 hsz
  have hes : ∀ e ∈ es, e.path.length ≤ 140737488351232 ∧ e.data.length ≤ 140737488351232 := fun e hm => by
    obtain ⟨m1, m2⟩ := hwe e hm
    have g1 := hall _ (by rw [List.append_nil]; exact mem_each0 m1)
    have g2 := hall _ (by rw [List.append_nil]; exact mem_each0 m2)
    exact ⟨of_decide_eq_true g1, of_decide_eq_true g2⟩
  have hs2 : s2.data.toList.length ≤ 140737488351232 := by
    have := hall s2.data.toList.length (by rw [List.append_nil]; exact (mem_each2 (by rw [DataW.weights]; simp)))
    exact of_decide_eq_true this
  have hs3 : s3.data.toList.length ≤ 140737488351232 := by
    have := hall s3.data.toList.length (by rw [List.append_nil]; exact (mem_each3 (by rw [DataW.weights]; simp)))
    exact of_decide_eq_true this
  have hc := lSame n1 s2.data.toList s3.data.toList A c es caps blind bk W hr he hk hcaps (by omega) hs2 hs3 hes
  simp only [bytes_back] at hc
  refine hc.mono ?_
  rintro e W' ⟨rfl, bel⟩
  have e1 : ((OpenSpec.ofChange Rows.filesSameSpec).at F).fn H ([d0, .lit (.int .u32 (n1 : Int)), .lit (.string s2.data.toList), .lit (.string s3.data.toList)] ++ []) = { results := [.lit (.bool true)], args := [d0, .lit (.int .u32 (n1 : Int)), .lit (.string s2.data.toList), .lit (.string s3.data.toList)] } := rfl
  refine ⟨_, rfl, _, _, _, [], p0 ++ p1 ++ p2 ++ p3, [], hW', ?_, ?_, ?_, bel.frame _, fun h => by cases h⟩
  · rw [e1]; exact trodAll_mk1 (shut_bool Tryz.underlying4 _)
  · rw [e1, List.append_assoc, List.append_assoc]; exact trodAll_mk4 (Below.trod laidOut (by kernel_rfl) (of_decide_eq_true (by kernel_rfl)) h0 bel (fun x hx => hlt x (by simp [hx]))) (Below.trod laidOut (by kernel_rfl) (of_decide_eq_true (by kernel_rfl)) h1 bel (fun x hx => hlt x (by simp [hx]))) (Below.trod laidOut (by kernel_rfl) (of_decide_eq_true (by kernel_rfl)) h2 bel (fun x hx => hlt x (by simp [hx]))) (Below.trod laidOut (by kernel_rfl) (of_decide_eq_true (by kernel_rfl)) h3 bel (fun x hx => hlt x (by simp [hx])))
  · rw [e1]; rfl

theorem filesSame_holds : Rows.FilesSameSaid :=
  OpenClaim.holds_of_cond 9 Tryz.f9 rfl rfl rfl rfl rfl rfl rfl ⟨rfl, rfl, rfl, rfl, rfl⟩ rfl rfl rfl rfl rfl (by kernel_rfl) Tryz.func9 (by kernel_rfl)
    (of_decide_eq_true (by kernel_rfl)) (by unfold Func.isWrapper; rw [if_neg (of_decide_eq_false (by kernel_rfl))]; exact ⟨rfl, rfl⟩)
    (fun os started H enc _ F0 => by rw [OpenClaim.pre_eq_preRow]; exact filesSame_lifted os started H enc F0)
#print axioms filesSame_holds
end Go.Proofs.YtkaoechldamggaaGreatDoor
namespace Go.Proofs.YtkaoechldamggaaGreatDoor
open Go

theorem filesSame_card : Rows.FilesSameCardSaid :=
  Claim7.holds_tied_plain_at .later [] [.data, .handle, .sentinel, .pinned] true (true, "279b2154b93464579006ceb286a2db82dd03ca17af16163be17d2f27eaad64e4") true
    filesSame_holds (fun _ h => by cases h) (by kernel_rfl) (fun _ h => by cases h) filesSame_row_tie rfl ⟨rfl, rfl⟩ (by kernel_rfl) rfl
    (fun f fn hf hfn => by
      obtain rfl : f = 9 := Option.some.inj ((show Tryz.prog.funcNamed "conduit/conduitlaw37.FilesSame" = some 9 by kernel_rfl).symm.trans hf) |>.symm
      obtain rfl : fn = Tryz.f9 := (Option.some.inj (Tryz.func9.symm.trans hfn)).symm
      exact ⟨by kernel_rfl, fun j t ht => by
        rw [Tryz.params9] at ht
        have hm : t ∈ [32, 30, 9, 9] := by
          have := List.mem_of_getElem? (by simpa using ht : [32, 30, 9, 9][j]? = some t)
          exact this
        simp only [List.mem_cons, List.not_mem_nil, or_false] at hm
        rcases hm with rfl | rfl | rfl | rfl
        · exact (show Tryz.prog.wantsStandIn 32 = false by kernel_rfl)
        · exact (show Tryz.prog.wantsStandIn 30 = false by kernel_rfl)
        · exact (show Tryz.prog.wantsStandIn 9 = false by kernel_rfl)
        · exact (show Tryz.prog.wantsStandIn 9 = false by kernel_rfl)⟩)
    (by kernel_rfl)
#print axioms filesSame_card
end Go.Proofs.YtkaoechldamggaaGreatDoor
