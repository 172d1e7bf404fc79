/- files.byHand. -/
import Derived.Test.YtkaoechldamggaaGreatDoorAL
import Derived.Test.YtkaoechldamggaaGreatDoorAM
import Derived.Test.YtkaoechldamggaaGreatDoorAH
import Derived.Test.YtkaoechldamggaaGreatDoorAJ
import Derived.Test.YtkaoechldamggaaGreatDoorK
import Derived.Laws.OwnMore
namespace Go.Proofs.YtkaoechldamggaaGreatDoor
open Go Go.RowKit
set_option maxRecDepth 100000

section
variable {w w' : World} {b e sz n : Nat} {v : Value} {xs : List Value}
/-- A row that lies ahead of B stays when a row from B on is grown. -/
theorem own_kept2 {B e' sz' n' : Nat} {v' : Value} {ys : List Value} (h : w.ownsRow b e sz v n xs) (hq : ∀ q, v.ownBlock = some q → q < B) (ho : w.ownsRow B e' sz' v' n' ys) (hg : w.grownBy w' v'.ownBlock) : w'.ownsRow b e sz v n xs := by
  refine h.kept hg ?_
  cases hv : v.ownBlock with
  | none => exact .inl rfl
  | some q =>
    refine .inr fun e => ?_
    have := hq q hv
    have := (ho.lt q e.symm).1
    omega
/-- Rows of two types lie in two blocks. -/
theorem own_kept3 {B e' sz' n' : Nat} {v' : Value} {ys : List Value} (h : w.ownsRow b e sz v n xs) (hne : e ≠ e') (ho : w.ownsRow B e' sz' v' n' ys) (hg : w.grownBy w' v'.ownBlock) : w'.ownsRow b e sz v n xs := by
  refine h.kept hg ?_
  rcases h.2 with ⟨rfl, _⟩ | ⟨q, cap, cur, rfl, _, hh, _⟩
  · exact .inl rfl
  · refine .inr ?_
    rcases ho.2 with ⟨rfl, _⟩ | ⟨q', cap', cur', rfl, _, hh', _⟩
    · simp [Value.ownBlock]
    · simp only [Value.ownBlock, ne_eq, Option.some.injEq]
      rintro rfl
      rw [hh] at hh'
      cases hh'
      exact hne rfl
variable {g : Nat} {A : Option Addr} {c : Nat} {es : List Ent} {caps : Nat} {blind : Bool} {qs : List Ask}
theorem Blk.grown {r : Option Nat} {k t : Nat} {cs : Array Value} (h : Blk w k t cs) (hg : w.grownBy w' r) (hne : r ≠ some k) : Blk w' k t cs := (hg.block k h.lt (fun e => hne e.symm)).trans h
theorem StF.grownOwn (h : StF w g A c es caps blind qs) (ho : w.ownsRow b e sz v n xs) (h1 : e ≠ 89) (h2 : e ≠ 102) (hb : g < b) (hg : w.grownBy w' v.ownBlock) : StF w' g A c es caps blind qs := by
  obtain ⟨av, hb1, ho1⟩ := h.st.ex
  refine ⟨⟨av, hb1.grown hg (own_ne_blk ho hb1 h1), own_kept3 ho1 h2.symm ho hg⟩, h.rd.below (B' := g) ⟨hg.os, hg.tape, hg.output, hg.size, fun k hk => hg.block k (by have := hb1.lt; omega) fun e => ?_⟩ (Nat.le_refl _)⟩
  have := (ho.lt k e.symm).1
  omega
theorem Kp.grownOwn {w0 : World} (h : Kp g w0 w) (ho : w.ownsRow b e sz v n xs) (hb : w0.heap.size ≤ b) (hg : w.grownBy w' v.ownBlock) : Kp g w0 w' :=
  ⟨hg.os.trans h.os, hg.tape.trans h.tape, hg.output.trans h.output, Nat.le_trans h.size hg.size,
   fun i hi hig => (hg.block i (Nat.lt_of_lt_of_le hi h.size) fun e => by have := (ho.lt i e.symm).1; omega).trans (h.low i hi hig),
   fun i hi hig ht => (hg.block i (Nat.lt_of_lt_of_le hi h.size) fun e => by have := (ho.lt i e.symm).1; omega).trans (h.other i hi hig ht)⟩
end

def hitS (f n : Bs) : Bool := match matchS f n with | some true => true | _ => false
def handF (es : List Ent) (caps : Nat) (blind : Bool) (n : Nat) (p : Bs) : List Bs := handG (fun d => rdDirLst es d caps blind) (fun p => stErr es p == 0) hitS n p
def askF (es : List Ent) (caps : Nat) (blind : Bool) (n : Nat) (p : Bs) : List Ask := askG (fun d => rdDirLst es d caps blind) (fun p => stErr es p == 0) hitS (asksOf caps 0) (asksOf caps 2) n p

def partL (f d : Bs) (l : List Inf) : List Bs := (l.filter fun x => hitS f x.name).map fun x => join d x.name
theorem part_take (f d : Bs) (l : List Inf) (j : Nat) (hj : j < l.length) : partL f d (l.take (j + 1)) = partL f d (l.take j) ++ if hitS f l[j].name then [join d l[j].name] else [] := by
  unfold partL
  rw [List.take_succ_eq_append_getElem hj, List.filter_append, List.map_append]
  congr 1
  cases h : hitS f l[j].name <;> simp [h]
theorem part_len (f d : Bs) (l : List Inf) (j : Nat) : (partL f d (l.take j)).length ≤ (partL f d l).length := by
  unfold partL
  rw [List.length_map, List.length_map]
  exact ((List.take_sublist j l).filter _).length_le
theorem asks_len (caps k : Nat) (p : Bs) : (asksOf caps k p).length ≤ 1 := by unfold asksOf; split <;> simp
theorem flat_take {β : Type} (F : Bs → List β) (ds : List Bs) (k : Nat) (hk : k < ds.length) : (ds.take (k + 1)).flatMap F = (ds.take k).flatMap F ++ F ds[k] := by
  rw [List.take_succ_eq_append_getElem hk, List.flatMap_append]
  simp
theorem flat_le {β : Type} (F : Bs → List β) (ds : List Bs) (k : Nat) : ((ds.take k).flatMap F).length ≤ (ds.flatMap F).length := by
  conv => rhs; rw [← List.take_append_drop k ds, List.flatMap_append, List.length_append]
  omega
theorem flat_le1 {β : Type} (F : Bs → List β) (ds : List Bs) (k : Nat) (hk : k < ds.length) : ((ds.take k).flatMap F).length + (F ds[k]).length ≤ (ds.flatMap F).length := by
  have := flat_le F ds (k + 1)
  rw [flat_take F ds k hk, List.length_append] at this
  exact this

theorem asks_all (caps k : Nat) (ds : List Bs) : (ds.flatMap (asksOf caps k)).length ≤ ds.length := by
  induction ds with
  | nil => simp
  | cons d ds ih => rw [List.flatMap_cons, List.length_append, List.length_cons]; have := asks_len caps k d; omega
theorem hitS_case (f n : Bs) : (matchS f n = none ∧ hitS f n = false) ∨ (matchS f n = some false ∧ hitS f n = false) ∨ (matchS f n = some true ∧ hitS f n = true) := by
  unfold hitS
  cases h : matchS f n with
  | none => exact .inl ⟨rfl, rfl⟩
  | some b => cases b <;> simp

theorem rdDir_count {es : List Ent} (hf : Fine es) (d : Bs) (caps : Nat) (blind : Bool) : (rdDirLst es d caps blind).length ≤ 256 := by
  rcases rdDir_cases es d caps blind with e | e
  · rw [e]; unfold listOf; rw [List.length_map]; exact Nat.le_trans (names_count es d) hf.many
  · rw [e]; simp
theorem own_str {w : World} {b n c : Nat} {A : Option Addr} {xs : List Bs} (h : w.ownsRow b 9 1 (.slice A n c) n (strCells xs)) (k : Nat) (hk : k < xs.length) : ∃ ad, A = some ad ∧ ad.block < w.heap.size ∧ w.cell? (ad.add k) = some (.string ⟨xs[k].toArray⟩) := by
  obtain ⟨A', c', e, _, _, hr⟩ := own_rd h
  cases e
  exact hr.str k hk
theorem own_inf {w : World} {b n c : Nat} {A : Option Addr} {xs : List Inf} (h : w.ownsRow b 45 3 (.slice A n c) n (infCells xs)) (k : Nat) (hk : k < xs.length) :
    ∃ ad, A = some ad ∧ ad.block < w.heap.size ∧ w.cell? (ad.add (k * 3)) = some (.string ⟨xs[k].name.toArray⟩) ∧ w.cell? ⟨(ad.add (k * 3)).block, (ad.add (k * 3)).off + 1, none⟩ = some (.bool xs[k].dir)
      ∧ w.cell? ⟨(ad.add (k * 3)).block, (ad.add (k * 3)).off + 2, none⟩ = some (.int .i64 (xs[k].size : Int)) := by
  obtain ⟨A', c', e, _, _, hr⟩ := own_rd h
  cases e
  exact hr.inf k hk

set_option maxHeartbeats 4000000 in
theorem pbyHand (es : List Ent) (caps : Nat) (blind : Bool) (g : Nat) (A : Option Addr) (c : Nat) (hf : Fine es) (hg5' : 5 ≤ g) (hcaps : caps < 4294967296) : ∀ (m : Nat) (qs : List Ask) (p : Bs) (w : World), p.length < m → StF w g A c es caps blind qs → Env w → p.length ≤ 1024 → qs.length + (p.length + 1) * 262400 ≤ 1099511627776 →
    Calls Tryz.prog 41 #[.pointer (some ⟨g, 0, none⟩), .string ⟨p.toArray⟩] w fun e w' =>
      ∃ v, e = .returned v ∧ w'.ownsRow w.heap.size 9 1 v (handF es caps blind m p).length (strCells (handF es caps blind m p)) ∧ StF w' g A c es caps blind (qs ++ askF es caps blind m p) ∧ Kp g w w' := by
  intro m
  induction m with
  | zero => intro qs p w h; omega
  | succ m ih =>
    intro qs p w hm hg he hp hl
    have hlt := hg.lt
    obtain ⟨a, ha⟩ : ∃ a, magic p = a := ⟨_, rfl⟩
    have cm := fun W => pmagic p W (by omega)
    rw [ha] at cm
    cases a with
    | false =>
      have h1 : handF es caps blind (m + 1) p = if stErr es p = 0 then [p] else [] := by unfold handF handG; rw [ha]; simp
      have h2 : askF es caps blind (m + 1) p = asksOf caps 0 p := by unfold askF askG; rw [ha]; simp
      rw [h1, h2]
      clear h1 h2
      have cs := fun W (hW : Env W) (hg : StF W g A c es caps blind qs) => pstat g A c es caps blind qs p W hg hf hW hcaps (by omega) (by omega)
      obtain ⟨s, bb, mm, hin⟩ := stInf_cells es p
      rw [hin] at cs
      generalize stErr es p = en at *
      by_cases hn : en = 0
      · subst hn
        rw [errV0] at cs
        rw [if_pos rfl]
        go_enter Tryz.func41, Tryz.ntmps41
        go_wp2_with (first
          | (go_at_call 69; refine (cm _).mono ?_; rintro e w1 ⟨rfl, hb1⟩; have hg1 := hg.below hb1; have hk1 := Kp.of_below (g := g) hb1; have he1 := he.below hb1)
          | (go_at_call 43; refine (cs _ he1 hg1).mono ?_; rintro e w2 ⟨rfl, hg2, hk2⟩; have hk2 := hk1.trans hk2))
        go_returns
        have hr := World.ownsRow_lit (base := w.heap.size) (e := 9) (size := 1) (w2.alloc (.cells #[.string ⟨s.toArray⟩, .bool bb, .int .i64 (mm : Int)] 45)) #[.string ⟨p.toArray⟩] 1 (by have := hk2.size; simp; omega) (by decide) rfl
        rw [World.size_alloc] at hr
        exact ⟨_, rfl, hr, (hg2.alloc _).alloc _, (hk2.alloc _).alloc _⟩
      · rw [if_neg hn]
        have hev : errV en = .iface 125 (.int .i64 (en : Int)) := by unfold errV; rw [if_neg hn]
        rw [hev] at cs
        clear hev
        go_enter Tryz.func41, Tryz.ntmps41
        go_wp2_with (first
          | (go_at_call 69; refine (cm _).mono ?_; rintro e w1 ⟨rfl, hb1⟩; have hg1 := hg.below hb1; have hk1 := Kp.of_below (g := g) hb1; have he1 := he.below hb1)
          | (go_at_call 43; refine (cs _ he1 hg1).mono ?_; rintro e w2 ⟨rfl, hg2, hk2⟩; have hk2 := hk1.trans hk2))
        go_returns
        exact ⟨_, rfl, World.ownsRow_nil _ _ _ _, hg2.alloc _, hk2.alloc _⟩
    | true =>
      obtain ⟨d, hd⟩ : ∃ d, (split2 p).1 = d := ⟨_, rfl⟩
      obtain ⟨f, hfi⟩ : ∃ f, (split2 p).2 = f := ⟨_, rfl⟩
      have hdl := split2_len p ha
      have hfl := split2_snd p
      have hdr := split2_rec p
      have cc := fun W => pcut p W (by omega)
      rw [hd] at hdl hdr cc
      rw [hfi] at hfl cc
      have cd := fun W => pmagic d W (by omega)
      obtain ⟨ds, hds⟩ : ∃ ds, (if magic d then handF es caps blind m d else [d]) = ds := ⟨_, rfl⟩
      obtain ⟨aq, haq⟩ : ∃ aq, (if magic d then askF es caps blind m d else []) = aq := ⟨_, rfl⟩
      have hm2 : magic p = true := ha
      have h1 : handF es caps blind (m + 1) p = ds.flatMap fun d => partL f d (rdDirLst es d caps blind) := by
        rw [← hds]; unfold handF; conv => lhs; unfold handG
        rw [hm2, if_pos rfl, hd, hfi]; rfl
      have h2 : askF es caps blind (m + 1) p = aq ++ ds.flatMap (asksOf caps 2) := by
        rw [← hds, ← haq]; unfold askF handF; conv => lhs; unfold askG
        rw [hm2, if_pos rfl, hd]
      have hlen : (ds.flatMap fun d => partL f d (rdDirLst es d caps blind)).length ≤ 262400 := by
        rw [← h1]; exact hand_len (rdDir_ok es caps blind) hf.many (fun e he => (hf.each e he).1) _ _ _ _
      have hdsl : ds.length ≤ 262400 := by
        rw [← hds]; split
        · exact hand_len (rdDir_ok es caps blind) hf.many (fun e he => (hf.each e he).1) _ _ _ _
        · simp
      have hdse : ∀ q ∈ ds, q.length ≤ 1024 := by
        rw [← hds]; split
        · exact hand_each (rdDir_ok es caps blind) (fun e he => (hf.each e he).1) _ _ _ _ (by omega)
        · intro q hq; obtain rfl := List.mem_singleton.1 hq; omega
      have haql : aq.length + 262400 ≤ (p.length + 1) * 262400 := by
        rw [← haq]
        split
        · rename_i hmd
          have h3 := ask_len (rdDir_ok es caps blind) hf.many (fun e he => (hf.each e he).1) (fun p => stErr es p == 0) hitS (asksOf caps 0) (asksOf caps 2) (asks_len caps 0) (asks_len caps 2) m d
          have h4 := hdr hmd
          have h7 : (d.length + 1) * 262400 ≤ p.length * 262400 := Nat.mul_le_mul_right _ (by omega)
          unfold askF
          rw [Nat.add_mul]; omega
        · rw [Nat.add_mul]; simp
      rw [h1, h2]
      clear h1 h2 ha hm2
      obtain ⟨F, hF⟩ : ∃ F, (fun d => partL f d (rdDirLst es d caps blind)) = F := ⟨_, rfl⟩
      rw [hF] at hlen ⊢
      have HF := Lib.hid hF
      clear hF
      obtain ⟨mb, hmb⟩ : ∃ mb, magic d = mb := ⟨_, rfl⟩
      rw [hmb] at hds haq hdr cd
      have hi := fun (W : World) (h1 : mb = true) (h2 : StF W g A c es caps blind qs) (h3 : Env W) => ih qs d W (by have := hdr h1; omega) h2 h3 (by omega) (by
        have := hdr h1
        have h7 : (d.length + 1) * 262400 ≤ (p.length + 1) * 262400 := Nat.mul_le_mul_right _ (by omega)
        exact Nat.le_trans (Nat.add_le_add_left h7 _) hl)
      clear hmb ih
      have HD := Lib.hid hds
      have HQ := Lib.hid haq
      clear hds haq hdr
      go_enter Tryz.func41, Tryz.ntmps41
      go_upto_if 40 with (first
        | (go_at_call 69; refine (cm _).mono ?_; rintro e w1 ⟨rfl, hb1⟩)
        | (go_at_call 70; refine (cc _).mono ?_; rintro e w2 ⟨rfl, hb2⟩; have hb2 := hb1.trans (hb2.mono hb1.size); have hs2 := hb2.size; have hr2 := World.ownsRow_lit (base := w.heap.size) (e := 9) (size := 1) w2 #[.string ⟨d.toArray⟩] 1 hs2 (by decide) rfl)
        | (go_at_call 69; refine (cd _).mono ?_; rintro e w3 ⟨rfl, hb3⟩; have hr3 := own_below hr2 hb3; have hb3 := (hb2.alloc hs2 _).trans (hb3.mono (by simp; omega))))
      have hg3 := hg.below hb3
      have hk3 := Kp.of_below (g := g) hb3
      have he3 := he.below hb3
      have hs3 := hb3.size
      clear cm cc cd hb1 hb2 hs2 hr2
      go_cut [9] (fun v wr => wr.ownsRow w.heap.size 9 1 v ds.length (strCells ds) ∧ StF wr g A c es caps blind (qs ++ aq) ∧ Kp g w wr)
      case first =>
        cases mb with
        | false =>
          have h1 := HD.out
          have h2 := HQ.out
          rw [if_neg (by decide)] at h1 h2
          subst h1 h2
          clear HD HQ hi
          go_wp2_with fail
          go_meet
          exact ⟨hr3, by rw [List.append_nil]; exact hg3, hk3⟩
        | true =>
          have h1 := HD.out
          have h2 := HQ.out
          rw [if_pos rfl] at h1 h2
          rw [h1, h2] at hi
          clear h1 h2 HD HQ
          have hi := fun W => hi W rfl
          go_wp2_with (go_at_call 41; refine (hi _ hg3 he3).mono ?_; rintro e w4 ⟨v4, rfl, hr4, hg4, hk4⟩; have hr4 := own_low hr4 hs3; have hk4 := hk3.trans hk4)
          go_meet
          exact ⟨hr4, hg4, hk4⟩
      case rest =>
        obtain ⟨hr4, hg4, hk4⟩ := hcut
        clear hi hg3 hk3 he3 hs3 hr3 hb3 HD HQ
        obtain ⟨A4, c4, rfl, -, -, -⟩ := own_rd hr4
        have hin4 : ∀ q, Value.ownBlock (.slice A4 ds.length c4) = some q → q < wc.heap.size := fun q h => (hr4.lt q h).2
        have hwc := hk4.size
        go_wp2_with fail
        go_loopw [10, 46] (fun v i wr => ∃ k : Nat, k ≤ ds.length ∧ i = .int .i64 k ∧ wr.ownsRow wc.heap.size 9 1 v ((ds.take k).flatMap F).length (strCells ((ds.take k).flatMap F)) ∧ wr.ownsRow w.heap.size 9 1 (.slice A4 ds.length c4) ds.length (strCells ds) ∧ StF wr g A c es caps blind (qs ++ aq ++ (ds.take k).flatMap (asksOf caps 2)) ∧ Kp g w wr ∧ wc.heap.size ≤ wr.heap.size) (fun _ i _ => ds.length - (intOf i).toNat)
        case atStart => exact ⟨0, Nat.zero_le _, rfl, World.ownsRow_nil _ _ _ _, hr4, by simpa using hg4, hk4, Nat.le_refl _⟩
        case round =>
          clear hr4 hg4 hk4
          obtain ⟨k, hk, rfl, hout, hin, hg5, hk5, hs5⟩ := hrel
          by_cases hkl : k < ds.length
          · obtain ⟨ad, rfl, had, hcell⟩ := own_str hin k hkl
            have hdk := hdse _ (List.getElem_mem hkl)
            have h5 := flat_take F ds k hkl
            have h6 := flat_take (asksOf caps 2) ds k hkl
            have h7 := flat_le1 F ds k hkl
            have h8 := asks_all caps 2 (ds.take k)
            have h9 : (ds.take k).length = k := by simp; omega
            obtain ⟨x, hx⟩ : ∃ x, ds[k] = x := ⟨_, rfl⟩
            have h10 : F x = partL f x (rdDirLst es x caps blind) := by rw [← HF.out]
            have hwr := hk5.size
            have he5 := he.low hk5 hg5'
            have cr := preadDir g A c es caps blind (qs ++ aq ++ (ds.take k).flatMap (asksOf caps 2)) x wr hg5 hf he5 hg5' hcaps (by rw [← hx]; omega) (by simp only [List.length_append]; omega)
            rw [hx] at hcell h5 h6 h7 hdk
            rw [h10] at h5 h7
            obtain ⟨en, hen⟩ : ∃ en, rdDirErr es x caps blind = en := ⟨_, rfl⟩
            have h11 := rdDir_err es x caps blind
            rw [hen] at cr h11
            obtain ⟨l, hll⟩ : ∃ l, rdDirLst es x caps blind = l := ⟨_, rfl⟩
            rw [hll] at cr h11 h5 h7
            have HR := Lib.hid hll
            have H5 := Lib.hid h5
            have H6 := Lib.hid h6
            clear h5 h6 h10 hx hll hen
            obtain ⟨av5, hbg, -⟩ := hg5.st.ex
            have hout4 := fun W (h : Kp g wr W) => h.own hout (by decide) (own_ne_blk hout hbg (by decide))
            have hin4' := fun W (h : Kp g wr W) => h.own hin (by decide) (own_ne_blk hin hbg (by decide))
            by_cases hn : en = 0
            · subst hn
              rw [errV0] at cr
              clear h11
              have hlok := rdDir_ok es caps blind
              have hxl : ∀ y ∈ l, y.name.length ≤ 1024 := fun y hy => by
                obtain ⟨e, he2, r, hbr, hn⟩ := hlok.mem x y (by rw [show rdDirLst es x caps blind = l from HR.out]; exact hy)
                have := (hf.each e he2).1
                have := below_len hbr
                have := headE_len r
                rw [hn]; omega
              have hpl := part_len f x l
              have hl256 : l.length ≤ 256 := by rw [← HR.out]; exact rdDir_count hf x caps blind
              clear hlok
              have hwx := hk5.size
              go_wp2_with (go_at_call 49; refine cr.mono ?_; rintro e w4 ⟨v4, rfl, hi4, hg4, hk4⟩; have hk6 := hk5.trans hk4; have ho4 := hout4 _ hk4; have hi4' := hin4' _ hk4; have hs4 := hk4.size; obtain ⟨A5, c5, rfl, -, -, -⟩ := own_rd hi4)
              go_loopw [10, 60] (fun v i wy => ∃ j : Nat, j ≤ l.length ∧ i = .int .i64 j ∧ wy.ownsRow wc.heap.size 9 1 v ((ds.take k).flatMap F ++ partL f x (l.take j)).length (strCells ((ds.take k).flatMap F ++ partL f x (l.take j))) ∧ wy.ownsRow w.heap.size 9 1 (.slice (some ad) ds.length c4) ds.length (strCells ds) ∧ wy.ownsRow wr.heap.size 45 3 (.slice A5 l.length c5) l.length (infCells l) ∧ StF wy g A c es caps blind (qs ++ aq ++ (ds.take k).flatMap (asksOf caps 2) ++ asksOf caps 2 x) ∧ Kp g w wy ∧ wc.heap.size ≤ wy.heap.size) (fun _ i _ => l.length - (intOf i).toNat)
              case atStart => exact ⟨0, Nat.zero_le _, rfl, by simpa [partL] using ho4, hi4', hi4, hg4, hk6, by omega⟩
              case round =>
                clear hout hin hg5 hk5 hs5 cr hout4 hin4' hi4 hg4 hk4 hk6 ho4 hi4' hs4 he5 hcell hbg
                obtain ⟨j, hj, rfl, hout, hin, hi, hg6, hk6, hs6⟩ := hrel
                by_cases hjl : j < l.length
                · obtain ⟨ad2, rfl, had2, e1, e2, e3⟩ := own_inf hi j hjl
                  have hyl := hxl _ (List.getElem_mem hjl)
                  have hpt := part_take f x l j hjl
                  have hpl1 := hpl (j + 1)
                  have hpl2 := hpl j
                  have hfl2 := flat_le F ds k
                  obtain ⟨y, hy⟩ : ∃ y, l[j] = y := ⟨_, rfl⟩
                  rw [hy] at hyl hpt e1 e2 e3
                  clear hy hpl hxl
                  have hx1 : Blk (wr.alloc (.cells #[.string ⟨y.name.toArray⟩, .bool y.dir, .int .i64 (y.size : Int)] 45)) wr.heap.size 45 _ := Blk.newAt _ _ rfl rfl
                  have ho1 := hout.alloc (.cells #[.string ⟨y.name.toArray⟩, .bool y.dir, .int .i64 (y.size : Int)] 45)
                  have hn1 := hin.alloc (.cells #[.string ⟨y.name.toArray⟩, .bool y.dir, .int .i64 (y.size : Int)] 45)
                  have hi1 := hi.alloc (.cells #[.string ⟨y.name.toArray⟩, .bool y.dir, .int .i64 (y.size : Int)] 45)
                  have hg1 := hg6.alloc (.cells #[.string ⟨y.name.toArray⟩, .bool y.dir, .int .i64 (y.size : Int)] 45)
                  have hk1 := hk6.alloc (.cells #[.string ⟨y.name.toArray⟩, .bool y.dir, .int .i64 (y.size : Int)] 45)
                  have cm := fun W => pmatch f y.name W (by omega) (by omega)
                  have cj := fun W => pjoin x y.name W (by omega) (by omega)
                  have H7 := Lib.hid hfl2
                  generalize (ds.take k).flatMap F = L at *
                  generalize partL f x (l.take j) = M at *
                  rcases hitS_case f y.name with ⟨h1, h2⟩ | ⟨h1, h2⟩ | ⟨h1, h2⟩
                  · rw [h1] at cm
                    rw [h2, if_neg (by decide), List.append_nil] at hpt
                    unfold retMatch at cm
                    dsimp only at cm
                    have HT := Lib.hid hpt
                    clear h1 h2 hpt
                    go_wp2_with (go_at_call 12; refine (cm _).mono ?_; rintro e w6 ⟨rfl, hb6⟩; have ho6 := own_below ho1 hb6; have hn6 := own_below hn1 hb6; have hi6 := own_below hi1 hb6; have hg6 := hg1.below hb6; have hk6 := hk1.below hb6; have hs7 := hb6.size)
                    go_roundw
                    case rel => exact ⟨j + 1, by omega, by go_num, by rw [HT.out]; exact ho6, hn6, hi6, hg6, hk6, by simp at hs7; omega⟩
                    case measure => simp [intOf]; omega
                  · rw [h1] at cm
                    rw [h2, if_neg (by decide), List.append_nil] at hpt
                    unfold retMatch at cm
                    dsimp only at cm
                    have HT := Lib.hid hpt
                    clear h1 h2 hpt
                    go_wp2_with (go_at_call 12; refine (cm _).mono ?_; rintro e w6 ⟨rfl, hb6⟩; have ho6 := own_below ho1 hb6; have hn6 := own_below hn1 hb6; have hi6 := own_below hi1 hb6; have hg6 := hg1.below hb6; have hk6 := hk1.below hb6; have hs7 := hb6.size)
                    go_roundw
                    case rel => exact ⟨j + 1, by omega, by go_num, by rw [HT.out]; exact ho6, hn6, hi6, hg6, hk6, by simp at hs7; omega⟩
                    case measure => simp [intOf]; omega
                  · rw [h1] at cm
                    rw [h2, if_pos rfl] at hpt
                    have hpm : M.length + 1 ≤ (partL f x l).length := by rw [hpt, List.length_append] at hpl1; exact hpl1
                    unfold retMatch at cm
                    dsimp only at cm
                    have HT := Lib.hid hpt
                    clear h1 h2 hpt
                    go_wp2_with (first
                      | (go_at_call 12; refine (cm _).mono ?_; rintro e w6 ⟨rfl, hb6⟩; have ho6 := own_below ho1 hb6; have hn6 := own_below hn1 hb6; have hi6 := own_below hi1 hb6; have hg6 := hg1.below hb6; have hk6 := hk1.below hb6; have hs7 := hb6.size; have hx6 := (hx1.below hb6 hx1.lt).cell)
                      | (go_at_call 71; refine (cj _).mono ?_; rintro e w7 ⟨rfl, rfl⟩)
                      | (at_builtin; go_must (refine push_str _ _ _ _ u10 rfl (L ++ M) _ (join x y.name) rfl rfl rfl ho6 rfl (by rw [List.length_append]; omega) (by simp at hs7; omega) ?_); intro v' w8 ho8 hg8))
                    go_roundw
                    case rel => exact ⟨j + 1, by omega, by go_num, by rw [HT.out, ← List.append_assoc]; exact ho8, own_kept2 hn6 hin4 ho6 hg8, own_kept3 hi6 (by decide) ho6 hg8, hg6.grownOwn ho6 (by decide) (by decide) (by omega) hg8, hk6.grownOwn ho6 hwc hg8, Nat.le_trans (by simp at hs7; omega) hg8.size⟩
                    case measure => simp [intOf]; omega
                · have hje : l.take j = l := List.take_of_length_le (by omega)
                  rw [hje] at hout
                  go_wp2_with fail
                  go_roundw
                  case rel => exact ⟨k + 1, by omega, by go_num, by rw [H5.out]; exact hout, hin, by rw [H6.out, ← List.append_assoc]; exact hg6, hk6, hs6⟩
                  case measure => simp [intOf]; omega
            · have hev : errV en = .iface 125 (.int .i64 (en : Int)) := by unfold errV; rw [if_neg hn]
              rw [hev] at cr
              have h12 := h11 hn
              subst h12
              clear hev h11
              go_wp2_with (go_at_call 49; refine cr.mono ?_; rintro e w4 ⟨v4, rfl, hi4, hg4, hk4⟩; have hk6 := hk5.trans hk4; have ho4 := hout4 _ hk4; have hi4' := hin4' _ hk4; have hs4 := hk4.size)
              go_roundw
              case rel => exact ⟨k + 1, by omega, by go_num, by rw [H5.out]; simpa [partL] using ho4, hi4', by rw [H6.out, ← List.append_assoc]; exact hg4, hk6, by omega⟩
              case measure => simp [intOf]; omega
          · have hke : ds.take k = ds := List.take_of_length_le (by omega)
            rw [hke] at hout hg5
            go_wp2_with fail
            go_returns
            exact ⟨_, rfl, own_low hout hwc, by rw [List.append_assoc] at hg5; exact hg5, hk5⟩
end Go.Proofs.YtkaoechldamggaaGreatDoor
