/- The store in the program: find. -/
import Derived.Test.YtkaoechldamggaaGreatDoorL
import Derived.Test.YtkaoechldamggaaGreatDoorH
namespace Go.Proofs.YtkaoechldamggaaGreatDoor
open Go Go.RowKit
set_option maxRecDepth 100000

/-- Block g holds just the cells cs, of element type t. -/
def Blk (w : World) (g t : Nat) (cs : Array Value) : Prop := w.heap[g]? = some (.cells cs t (0, 0))
section
variable {w w' : World} {g t : Nat} {cs : Array Value}
theorem Blk.lt (h : Blk w g t cs) : g < w.heap.size := (Array.getElem?_eq_some_iff.1 h).1
theorem Blk.cell (h : Blk w g t cs) : ∀ i, w.cell? ⟨g, i, none⟩ = cs[i]? := fun i => cell_of_row w g i cs t (0, 0) h
theorem Blk.frozen (h : Blk w g t cs) : ∀ i, w.frozen? ⟨g, i, none⟩ = false := fun i => by simp only [Blk] at h; simp [World.frozen?, h]
theorem Blk.set_ (h : Blk w g t cs) (i : Nat) (v : Value) : Blk (w.setCell ⟨g, i, none⟩ v) g t (cs.setIfInBounds i v) := by
  unfold Blk at h ⊢
  simp [World.setCell, Array.getElem?_modify, h]
theorem Blk.far (h : Blk w g t cs) {p : Addr} (hp : g ≠ p.block) (u : Value) : Blk (w.setCell p u) g t cs := (Below.heap_setCell w p u g hp).trans h
theorem Blk.below {B : Nat} (h : Blk w g t cs) (hb : Below B w w') (hB : g < B) : Blk w' g t cs := (hb.block g hB).trans h
theorem Blk.alloc (h : Blk w g t cs) (o : Obj) : Blk (w.alloc o) g t cs := (Below.heap_alloc w o g h.lt).trans h
theorem Blk.newAt {o : Obj} {b : Nat} (t : Nat) (cs : Array Value) (ho : o = .cells cs t) (hb : b = w.heap.size) : Blk (w.alloc o) b t cs := by subst ho; subst hb; exact heap_alloc_new w _
theorem Blk.drew1 (h : Blk w g t cs) : Blk w.drew g t cs := h
theorem Blk.drewN (h : Blk w g t cs) (n : Nat) : Blk (w.drewN n) g t cs := h
theorem Blk.ne_ {g' t' : Nat} {cs' : Array Value} (h : Blk w g t cs) (h' : Blk w g' t' cs') (hne : t ≠ t') : g ≠ g' := by
  rintro rfl
  unfold Blk at h h'
  rw [h] at h'
  cases h'
  exact hne rfl
end

/-- T is a struct of sz cells. -/
structure STy (T sz : Nat) : Prop where
  hu : ∃ fs, Tryz.prog.underlying T = some (.struct fs)
  hi : (Tryz.prog.info? T).map (·.size) = some sz
theorem sty122 : STy 122 6 := ⟨⟨_, Tryz.underlying122⟩, by kernel_rfl⟩
theorem sty45 : STy 45 3 := ⟨⟨_, Tryz.underlying45⟩, by kernel_rfl⟩
theorem sty32 : STy 32 3 := ⟨⟨_, Tryz.underlying32⟩, by kernel_rfl⟩
section
variable {T sz : Nat} (hT : STy T sz) {ops : Array Oper} {rest : List Oper} {o : Oper} {a : Act} {w : World} {Q : Exit → Act → World → Prop}
include hT
theorem loadB (hgd : o.guard = none) (x : Operand) (ho : o.op = .load T x) (g t : Nat) (cs : Array Value) (hx : a.eval x = .pointer (some ⟨g, 0, none⟩)) (hg : Blk w g t cs) (hs : cs.size = sz)
    (h : wpList Tryz.prog ops Q rest (a.put o.dst (.agg cs)) w) : wpList Tryz.prog ops Q (o :: rest) a w := by
  obtain ⟨fs, hu⟩ := hT.hu
  exact wpList_load_row hgd T x ho g hx t _ (0, 0) _ hg hu rfl (by rw [hs]; exact hT.hi) h
theorem storeB (hgd : o.guard = none) (x y : Operand) (ho : o.op = .store T x y) (g t : Nat) (old cs : Array Value) (hx : a.eval x = .pointer (some ⟨g, 0, none⟩)) (hg : Blk w g t old) (hs0 : old.size = sz) (hy : a.eval y = .agg cs) (hs : cs.size = sz)
    (h1 : cs.toList.all (·.oneCell') = true) (h : ∀ w', Blk w' g t cs → Wrote w g w' → wpList Tryz.prog ops Q rest (a.put o.dst undef) w') : wpList Tryz.prog ops Q (o :: rest) a w :=
  wpList_store_row hgd T x y ho g _ hx hy t _ hg (by rw [hs]; exact hT.hi) (by rw [hs0, hs]) (by rw [← Array.all_toList]; exact h1) (h _ (setRow_heap w g _ _ t (0, 0) hg) (Wrote.row w g _))
theorem resultsB1 {fn : Func} {p u : Tmp} (h : fn.results = #[.cell p T, .tmp u]) (tmps : Array Value) (w : World) (g t : Nat) (cs : Array Value)
    (hp : tmps.getD p undef = .pointer (some ⟨g, 0, none⟩)) (hg : Blk w g t cs) (hs : cs.size = sz) :
    (results fn tmps).run Tryz.prog w = .ok (.tuple #[.agg cs, tmps.getD u undef]) w := by
  obtain ⟨fs, hu⟩ := hT.hu
  have hp' : tmps[p]?.getD undef = .pointer (some ⟨g, 0, none⟩) := by simpa using hp
  simp [results, h, hp', asAddr, run_loadVar_row w g t T _ (0, 0) _ hg hu rfl (by rw [hs]; exact hT.hi)]
end
theorem Blk.wrote {w w' : World} {g b t : Nat} {cs : Array Value} (h : Blk w b t cs) (hw : Wrote w g w') (hb : b ≠ g) : Blk w' b t cs := (hw.block b hb).trans h

/-- What find tells of a path: the entry's cells. -/
def entArr (g : Nat) (p : Bs) (k : Option (Option Bs)) : Array Value :=
  #[.pointer (some ⟨g, 0, none⟩), .string ⟨p.toArray⟩, .string ⟨(lastEl p).toArray⟩, .bool (match k with | some (some _) => false | _ => true), .int .i64 ((dataOf k).length : Int), .string ⟨(dataOf k).toArray⟩]
def zeroEnt : Array Value := #[.pointer none, .string ⟨#[]⟩, .string ⟨#[]⟩, .bool false, .int .i64 0, .string ⟨#[]⟩]
def errV (n : Nat) : Value := if n = 0 then .nilIface else .iface 125 (.int .i64 (n : Int))
def missing (k : Option (Option Bs)) : Nat := match k with | none => 371 | _ => 0

set_option maxHeartbeats 4000000 in
theorem pfind (g : Nat) (A : Option Addr) (c : Nat) (es : List Ent) (caps : Int) (blind : Bool) (av : Value) (p : Bs) (w : World) (hg : Blk w g 89 #[.slice A es.length c, .int .u32 caps, .bool blind, av])
    (hr : Rd w w.heap.size A (entCells es)) (hm : es.length ≤ 256) (hps : p.length ≤ 1048576) (hpl : ∀ e ∈ es, e.path.length ≤ 1024 ∧ e.data.length ≤ 65535) :
    Calls Tryz.prog 56 #[.pointer (some ⟨g, 0, none⟩), .string ⟨p.toArray⟩] w fun e w' => e = .returned (.tuple #[.agg (entArr g p (look es p)), errV (missing (look es p))]) ∧ Below w.heap.size w w' := by
  have hgc := hg.cell
  have hlt := hg.lt
  by_cases hdot : (p == [46]) = true
  · rw [look_dot es p hdot]
    go_enter Tryz.func56, Tryz.ntmps56
    go_wp2_with (go_at_call 82; refine (plast p _ (by omega)).mono ?_; rintro e w1 ⟨rfl, rfl⟩)
    go_returns
    exact ⟨rfl, by go_grown⟩
  · have hdot : (p == [46]) = false := by simpa using hdot
    obtain ⟨r, hr0⟩ : ∃ r, look es p = r := ⟨_, rfl⟩
    rw [hr0]
    rw [look_in es p hdot] at hr0
    have HR := Lib.hid hr0
    clear hr0
    go_enter Tryz.func56, Tryz.ntmps56
    go_wp2_with (go_at_call 82; refine (plast p _ (by omega)).mono ?_; rintro e w1 ⟨rfl, rfl⟩)
    go_loopw [26] (fun i wr => ∃ k : Nat, k ≤ es.length ∧ i = .int .i64 k ∧ Below w.heap.size w wr ∧ w.heap.size + 2 ≤ wr.heap.size ∧ Blk wr w.heap.size 122 zeroEnt ∧ Blk wr (w.heap.size + 1) 122 #[.pointer (some ⟨g, 0, none⟩), .string ⟨p.toArray⟩, .string ⟨(lastEl p).toArray⟩, .bool true, .int .i64 0, .string ⟨#[]⟩] ∧ Hid (lookIn (es.drop k) p = r)) (fun i _ => es.length - (intOf i).toNat)
    case atStart =>
      refine ⟨0, Nat.zero_le _, rfl, by go_grown, by simp, (Blk.newAt _ _ rfl rfl).alloc _, Blk.newAt _ _ rfl (by simp), HR.out⟩
    case round =>
      clear HR
      obtain ⟨k, hk, rfl, hb, hsz, hz, he, HI⟩ := hrel
      have hbs := hb.size
      have hr' := hr.below hb (Nat.le_refl _)
      have hzc := hz.cell
      have hzf := hz.frozen
      have hec := he.cell
      have hef := he.frozen
      unfold zeroEnt at hzc
      have hz1 : w.heap.size < wr.heap.size := by omega
      have hz2 : w.heap.size + 1 < wr.heap.size := by omega
      by_cases hlt2 : k < es.length
      · obtain ⟨ad, rfl, hadb, h1, h2⟩ := hr'.ent k hlt2
        have hsz1 := hpl _ (List.getElem_mem hlt2)
        clear hr' hr hgc
        cases hq : (es[k].path == p)
        · obtain ⟨b, hbl⟩ : ∃ b, isBelow p es[k].path = b := ⟨_, rfl⟩
          have hd1 := hsz1.1
          have c1 : ∀ W, Calls Tryz.prog 55 #[.string ⟨p.toArray⟩, .string ⟨es[k].path.toArray⟩] W fun e w' => (∃ s, e = .returned (.tuple #[.string s, .bool b])) ∧ W = w' := fun W => by
            have h := pbelow p es[k].path W (by omega) (by omega)
            rw [hbl] at h
            exact h.mono fun _ _ ⟨x, y⟩ => ⟨⟨_, x⟩, y⟩
          have C1 := Lib.hid c1
          have HB := Lib.hid hbl
          have he3 := he.alloc (.cells #[.string ⟨es[k].path.toArray⟩, .string ⟨es[k].data.toArray⟩] 74)
          have hz3 := hz.alloc (.cells #[.string ⟨es[k].path.toArray⟩, .string ⟨es[k].data.toArray⟩] 74)
          have hb3 := hb.alloc hbs (.cells #[.string ⟨es[k].path.toArray⟩, .string ⟨es[k].data.toArray⟩] 74)
          clear c1 hbl hzc hzf hec hef
          cases b with
          | true =>
            have HI := Lib.hid (HI.symm.trans (lookIn_dir es p k hlt2 hq HB.out))
            go_wp2_with (first | (go_at_call 55; refine (C1.out _).mono ?_; rintro e w1 ⟨⟨s, rfl⟩, rfl⟩) | (refine loadB sty122 rfl (.tmp 6) rfl _ _ _ rfl he3 rfl ?_; simp only [Act.put, List.setIfInBounds_toArray, List.set_cons_succ, List.set_cons_zero]) | (refine storeB sty122 rfl (.tmp 4) (.tmp 53) rfl _ _ _ _ rfl hz3 rfl rfl rfl rfl ?_; intro w2 hq2 hw2; simp only [Act.put]))
            refine bodyPost_ret (resultsB1 sty122 rfl _ _ _ _ _ rfl hq2 rfl) rfl ?_
            rw [HI.out]
            exact ⟨ret_two rfl rfl, hw2.below hb3 (Nat.le_refl _)⟩
          | false =>
            have HI := Lib.hid ((lookIn_on es p k hlt2 hq HB.out).symm.trans HI)
            go_wp2_with (go_at_call 55; refine (C1.out _).mono ?_; rintro e w1 ⟨⟨s, rfl⟩, rfl⟩)
            go_roundw
            case rel => exact ⟨k + 1, by omega, by go_num, hb3, by simp; omega, hz3, he3, HI⟩
            case measure => simp [intOf]; omega
        · have HI := Lib.hid (HI.symm.trans (lookIn_hit es p k hlt2 hq))
          have hd1 := hsz1.2
          go_wp2_with fail
          go_region
          have he3 := (((he.set_ 3 (.bool false)).set_ 4 (.int .i64 ((es[k].data.length : Nat) : Int))).set_ 5 (.string ⟨es[k].data.toArray⟩)).alloc (.cells #[.string ⟨es[k].path.toArray⟩, .string ⟨es[k].data.toArray⟩] 74)
          have hz3 := (((hz.far (p := ⟨w.heap.size + 1, 3, none⟩) (by simp) (.bool false)).far (p := ⟨w.heap.size + 1, 4, none⟩) (by simp) (.int .i64 ((es[k].data.length : Nat) : Int))).far (p := ⟨w.heap.size + 1, 5, none⟩) (by simp) (.string ⟨es[k].data.toArray⟩)).alloc (.cells #[.string ⟨es[k].path.toArray⟩, .string ⟨es[k].data.toArray⟩] 74)
          have hb3 := (((hb.setCell (p := ⟨w.heap.size + 1, 3, none⟩) (by simp) (.bool false)).setCell (p := ⟨w.heap.size + 1, 4, none⟩) (by simp) (.int .i64 ((es[k].data.length : Nat) : Int))).setCell (p := ⟨w.heap.size + 1, 5, none⟩) (by simp) (.string ⟨es[k].data.toArray⟩)).alloc (by simp; omega) (.cells #[.string ⟨es[k].path.toArray⟩, .string ⟨es[k].data.toArray⟩] 74)
          have hb4 := hb3.drew
          clear hzc hzf hec hef
          go_wp2_with (first | (refine loadB sty122 rfl (.tmp 6) rfl _ _ _ rfl he3.drew1 rfl ?_; simp only [Act.put, List.setIfInBounds_toArray, List.set_cons_succ, List.set_cons_zero]) | (refine storeB sty122 rfl (.tmp 4) (.tmp 44) rfl _ _ _ _ rfl hz3.drew1 rfl rfl rfl rfl ?_; intro w2 hq2 hw2; simp only [Act.put]))
          refine bodyPost_ret (resultsB1 sty122 rfl _ _ _ _ _ rfl hq2 rfl) rfl ?_
          rw [HI.out]
          exact ⟨ret_two rfl rfl, hw2.below hb4 (Nat.le_refl _)⟩
      · have HI := Lib.hid (HI.symm.trans (lookIn_end es p k (by omega)))
        clear hr' hr hgc hzc hzf hec hef
        go_wp2_with (first | (refine loadB sty122 rfl (.tmp 6) rfl _ _ _ rfl he rfl ?_; simp only [Act.put, List.setIfInBounds_toArray, List.set_cons_succ, List.set_cons_zero]) | (refine storeB sty122 rfl (.tmp 4) (.tmp 55) rfl _ _ _ _ rfl hz rfl rfl rfl rfl ?_; intro w2 hq2 hw2; simp only [Act.put]))
        refine bodyPost_ret (resultsB1 sty122 rfl _ _ _ _ _ rfl hq2 rfl) rfl ?_
        rw [HI.out]
        exact ⟨ret_two rfl rfl, hw2.below hb (Nat.le_refl _)⟩
end Go.Proofs.YtkaoechldamggaaGreatDoor
