/- A store among the arguments: what it is in memory. What the rows' conditions give a walk where errSkip is listed too (Env, the global 0), and a world that meets them. -/
import Derived.Test.YtkaoechldamggaaGreatDoorAS
import Derived.Deep.SlicePairs
import Derived.Lib.SmallJoins
import Derived.Deep.Strs
namespace Go.Proofs.YtkaoechldamggaaGreatDoor
open Go Go.ChangeShapes Go.WideShapes Go.ChangeAt Go.RowKit Go.ChangeMaps Go.Joins
set_option maxRecDepth 100000

def bsOf : Value → Bs
  | .string s => s.data.toList
  | _ => []
theorem bs_str (s : ByteArray) : Value.string s = str (bsOf (.string s)) := by simp [str, bsOf]

theorem mem_weightsAll {H : Type} {e : TypeId} {d : DataW H} {x : Nat} : ∀ {l : List (DataW H)}, d ∈ l → x ∈ d.weights Tryz.prog e → x ∈ DataW.weightsAll Tryz.prog e l := by
  intro l
  induction l with
  | nil => intro h; cases h
  | cons y l ih =>
    intro h hx
    rw [DataW.weightsAll, List.mem_append]
    rcases List.mem_cons.1 h with rfl | h
    · exact .inl hx
    · exact .inr (ih h hx)

theorem weights74 {H : Type} (a b : List UInt8) : DataW.weights Tryz.prog 74 (.agg [.lit (.string a), .lit (.string b)] : DataW H) = [a.length, b.length] := by
  rw [DataW.weights, Tryz.underlying74]
  rfl

theorem bytes_back (x : ByteArray) : (ByteArray.mk x.data.toList.toArray) = x := by simp
theorem mem_each0 {H : Type} {t : TypeId} {ts : List TypeId} {d : DataW H} {ds : List (DataW H)} {x : Nat} (h : x ∈ DataW.weights Tryz.prog t d) : x ∈ DataW.weightsEach Tryz.prog (t :: ts) (d :: ds) := by
  rw [DataW.weightsEach]; exact List.mem_append_left _ h
theorem mem_each1 {H : Type} {t0 t : TypeId} {ts : List TypeId} {d0 d : DataW H} {ds : List (DataW H)} {x : Nat} (h : x ∈ DataW.weights Tryz.prog t d) : x ∈ DataW.weightsEach Tryz.prog (t0 :: t :: ts) (d0 :: d :: ds) := by
  rw [DataW.weightsEach]; exact List.mem_append_right _ (mem_each0 h)
theorem mem_each2 {H : Type} {t0 t1 t : TypeId} {ts : List TypeId} {d0 d1 d : DataW H} {ds : List (DataW H)} {x : Nat} (h : x ∈ DataW.weights Tryz.prog t d) : x ∈ DataW.weightsEach Tryz.prog (t0 :: t1 :: t :: ts) (d0 :: d1 :: d :: ds) := by
  rw [DataW.weightsEach]; exact List.mem_append_right _ (mem_each1 h)
theorem mem_each3 {H : Type} {t0 t1 t2 t : TypeId} {ts : List TypeId} {d0 d1 d2 d : DataW H} {ds : List (DataW H)} {x : Nat} (h : x ∈ DataW.weights Tryz.prog t d) : x ∈ DataW.weightsEach Tryz.prog (t0 :: t1 :: t2 :: t :: ts) (d0 :: d1 :: d2 :: d :: ds) := by
  rw [DataW.weightsEach]; exact List.mem_append_right _ (mem_each2 h)

theorem open_store {H : Type} {enc : TypeId × Value → H} {W : World} {b0 : Nat} {v : Value} {d : DataW H} {ps : List MemPlace} (hval : Value.okWide Tryz.prog W .any b0 32 v) (hd : DataW.Trod enc Tryz.prog W 0 (fun _ => true) true 32 v d ps) :
    ∃ (A : Option Addr) (c : Nat) (es : List Ent) (caps : Nat) (blind : Bool), v = .agg #[.slice A es.length c, .int .u32 (caps : Int), .bool blind] ∧ Rd W W.heap.size A (entCells es) ∧ caps < 4294967296 ∧
      ∀ e ∈ es, e.path.length ∈ DataW.weights Tryz.prog 32 d ∧ e.data.length ∈ DataW.weights Tryz.prog 32 d := by
  obtain ⟨v0, v1, v2, y0, y1, y2, n, rfl, rfl, -, h0, h1, h2⟩ := open_agg3 Tryz.underlying32 (by kernel_rfl) (by kernel_rfl) hval hd
  obtain ⟨k, e1, rfl, hw⟩ := DataW.trod_int Tryz.underlying30 h1
  obtain ⟨b, e2, rfl⟩ := DataW.trod_bool Tryz.underlying4 h2
  simp only [List.cons.injEq, and_true] at e1 e2
  subst e1 e2
  have hk : 0 ≤ k ∧ k < 4294967296 := by
    have h1 : IntKind.u32.min ≤ k ∧ k ≤ IntKind.u32.max := by simpa [Lit.wf] using hw
    have h2 : IntKind.u32.min = 0 := by decide
    have h3 : IntKind.u32.max = 4294967295 := by decide
    omega
  obtain ⟨caps, rfl⟩ : ∃ caps : Nat, k = (caps : Int) := ⟨k.toNat, by omega⟩
  have hcaps : caps < 4294967296 := by omega
  rcases Deep.open_slice_pairs Tryz.underlying29 Tryz.underlying74 (by kernel_rfl) rfl rfl (by kernel_rfl) (by kernel_rfl) h0 with ⟨e3, rfl⟩ | ⟨a, len, cap, m, n2, V0, V1, D0, D1, P0, P1, e3, hb, hl, hm, hmm, rfl, hel⟩
  · simp only [List.cons.injEq, and_true] at e3
    subst e3
    exact ⟨none, 0, [], caps, b, rfl, Rd.nil _ _ _, hcaps, fun e he => by cases he⟩
  · simp only [List.cons.injEq, and_true] at e3
    subst e3
    have hlm : len ≤ m := by rw [hmm]; simp; exact hl
    have hstr : ∀ i, i < len → V0 i = str (bsOf (V0 i)) ∧ V1 i = str (bsOf (V1 i)) ∧ D0 i = .lit (.string (bsOf (V0 i))) ∧ D1 i = .lit (.string (bsOf (V1 i))) := fun i hi => by
      obtain ⟨_, _, t0, t1⟩ := hel i (by omega)
      obtain ⟨s0, g0, g1, _⟩ := DataW.trod_string Tryz.underlying9 t0
      obtain ⟨s1, g2, g3, _⟩ := DataW.trod_string Tryz.underlying9 t1
      simp only [List.cons.injEq, and_true] at g0 g2
      simp only [Prod.mk.injEq] at g1 g3
      rw [g0, g2, g1.1, g3.1]
      exact ⟨bs_str _, bs_str _, rfl, rfl⟩
    obtain ⟨es, hes⟩ : ∃ es : List Ent, ((List.range len).map fun i => (⟨bsOf (V0 i), bsOf (V1 i)⟩ : Ent)) = es := ⟨_, rfl⟩
    have hlen : es.length = len := by rw [← hes]; simp
    have hget : ∀ i (hi : i < es.length), es[i] = ⟨bsOf (V0 i), bsOf (V1 i)⟩ := fun i hi => by subst hes; simp
    refine ⟨some a, cap, es, caps, b, by rw [hlen], ?_, hcaps, ?_⟩
    · intro j u hj
      have hjl : j < es.length * 2 := by
        have := (List.getElem?_eq_some_iff.1 hj).1
        have h3 := flat_length entCell 2 (fun _ => rfl) es
        unfold entCells at this
        omega
      have hi : j / 2 < es.length := by omega
      have hfg := flat_get entCell 2 (fun _ => rfl) es (j / 2) (j % 2) (by omega) hi
      have hdj : j / 2 * 2 + j % 2 = j := by omega
      rw [hdj] at hfg
      have hj2 : (entCell es[j / 2])[j % 2]? = some u := hfg.symm.trans hj
      rw [hget _ hi] at hj2
      obtain ⟨c0, c1, _, _⟩ := hel (j / 2) (by omega)
      obtain ⟨s0, s1, _, _⟩ := hstr (j / 2) (by omega)
      have hcell : W.cell? (a.add j) = some u := by
        have h2 : j % 2 = 0 ∨ j % 2 = 1 := by omega
        rcases h2 with h2 | h2
        · rw [h2] at hj2
          have : j / 2 * 2 = j := by omega
          rw [this] at c0
          rw [c0, s0]
          simpa [entCell] using hj2
        · rw [h2] at hj2
          have : j / 2 * 2 + 1 = j := by omega
          rw [this] at c1
          rw [c1, s1]
          simpa [entCell] using hj2
      refine ⟨a, rfl, ?_, hcell⟩
      have := World.block_lt_of_cell? _ _ hcell
      rwa [add_block] at this
    · intro e he
      obtain ⟨i, hi, rfl⟩ := List.getElem_of_mem he
      rw [hget i hi]
      have hw74 : ∀ x, (x = (bsOf (V0 i)).length ∨ x = (bsOf (V1 i)).length) → x ∈ DataW.weights Tryz.prog 32 (.agg [(DataW.slice ((List.range len).map fun i => DataW.agg [D0 i, D1 i]) ((List.range (m - len)).map fun j => DataW.agg [D0 (len + j), D1 (len + j)])), .lit (.int .u32 (caps : Int)), .lit (.bool b)] : DataW H) := by
        intro x hx
        obtain ⟨_, _, d0, d1⟩ := hstr i (by omega)
        have h5 : x ∈ DataW.weightsAll Tryz.prog 74 ((List.range len).map fun i => (DataW.agg [D0 i, D1 i] : DataW H)) := by
          refine mem_weightsAll (d := .agg [D0 i, D1 i]) (List.mem_map.2 ⟨i, List.mem_range.2 (by omega), rfl⟩) ?_
          rw [d0, d1, weights74]
          rcases hx with rfl | rfl <;> simp
        rw [DataW.weights, Tryz.underlying32]
        refine List.mem_append_left _ ?_
        rw [DataW.weights, Tryz.underlying29]
        exact List.mem_cons_of_mem _ (List.mem_append_left _ h5)
      exact ⟨hw74 _ (.inl rfl), hw74 _ (.inr rfl)⟩
end Go.Proofs.YtkaoechldamggaaGreatDoor
namespace Go.Proofs.YtkaoechldamggaaGreatDoor
open Go Go.RowKit Go.ChangeShapes Go.WideShapes Go.ChangeAt Go.ChangeMaps
set_option maxRecDepth 100000

theorem skAt : Tryz.prog.globalNamed "conduit/files.errSkip" = some 0 := by kernel_rfl
theorem skType : (Tryz.prog.globals[0]?).map (·.type) = some 104 := by kernel_rfl
theorem skName : Tryz.prog.typeName? 3 263 = some "*errors.errorString" := by kernel_rfl
theorem skCells : Tryz.prog.cellsOf 284 = 1 := by kernel_rfl
theorem skCells9 : Tryz.prog.cellsOf 9 = 1 := by kernel_rfl
theorem skStar : "*" ++ "errors.errorString" = "*errors.errorString" := by decide
theorem skRow (u : TypeId) (h : Tryz.prog.typeName? 3 u = some "*errors.errorString") : u = 263 :=
  typeName_ptr_named (nm := "errors.errorString") (by rw [skStar]; kernel_rfl) (by kernel_rfl) (by decide) u (by rw [skStar]; exact h)

theorem skip_of_laid {W : World} (h : laidMet Tryz.prog [("unicode/utf8.acceptRanges", Rows.laid_unicode_utf8_acceptRanges), ("conduit/files.errSkip", Rows.laid_conduit_files_errSkip), ("unicode/utf8.first", Rows.laid_unicode_utf8_first)] W) :
    ∃ b, W.cell? ⟨0, 0, none⟩ = some (.iface 263 (.pointer (some b))) := by
  obtain ⟨ps, ⟨g0, t0, cs0, f0, p0, q0, hg0, ht0, hv0, hd0, ⟨g1, t1, cs1, f1, p1, q1, hg1, ht1, hv1, hd1, -, e1⟩, e0⟩, hnd, hrows⟩ := h
  obtain rfl := Option.some.inj (skAt.symm.trans hg1)
  obtain rfl := Option.some.inj (skType.symm.trans ht1)
  subst e1
  subst e0
  obtain ⟨l1⟩ := cs1
  have ok1 : ∀ u v, l1 = [.iface u v] → Value.okWide Tryz.prog W .any 0 u v := fun u v e => by
    subst e
    exact (hrows 0 0 (by simp [MemPlace.row])).2 u v (by simpa using World.var?_cell hg1 hv1 0)
  obtain ⟨a0, s0, rfl, -⟩ := errorString_of_trod Tryz.underlying104 skRow Tryz.underlying263 Tryz.underlying284 rfl rfl Tryz.underlying9 skCells skCells9 hd1 ok1
  exact ⟨a0, by simpa using World.var?_cell hg1 hv1 0⟩

theorem env_skip {W : World} (h : laidMetH Tryz.prog Rows.filesWalksRow.laid W) (hsh : W.ShapedOpen Tryz.prog) : Env W ∧ ∃ b, W.cell? ⟨0, 0, none⟩ = some (.iface 263 (.pointer (some b))) := by
  have h' : laidMet Tryz.prog [("unicode/utf8.acceptRanges", Rows.laid_unicode_utf8_acceptRanges), ("conduit/files.errSkip", Rows.laid_conduit_files_errSkip), ("unicode/utf8.first", Rows.laid_unicode_utf8_first)] W ∧ handlesMet Tryz.prog [("errors.errorType", Rows.laid_errors_errorType)] W := h
  exact ⟨env_of h'.1 (by simp) (by simp) h'.2 hsh, skip_of_laid h'.1⟩

abbrev skipS : ByteArray := { data := #[115, 107, 105, 112] }
/-- The world of laidWorld with a block more, which errSkip points to: the witness. -/
noncomputable def skipWorld (os : Os) : World :=
  let w0 := World.laidAll Tryz.prog os [("unicode/utf8.acceptRanges", Rows.laid_unicode_utf8_acceptRanges), ("unicode/utf8.first", Rows.laid_unicode_utf8_first)]
  { w0 with heap := ((w0.heap.modify 3 fun
      | .cells _ t frozen => .cells #[.iface 213 (.agg #[.pointer (some ⟨5, 104, none⟩)])] t frozen
      | o => o).modify 0 fun
      | .cells _ t frozen => .cells #[.iface 263 (.pointer (some ⟨w0.heap.size, 0, none⟩))] t frozen
      | o => o).push (.cells #[.string skipS] 284) }
theorem skipWorld_met (os : Os) (args : Array Value) : laidMetH Tryz.prog Rows.filesWalksRow.laid ((skipWorld os).forCall (fun _ _ => 0) ⟨#[], args, []⟩).memory :=
  laidMetH_of_parts3 (fuel := 8) (laidMet_of_run' 8 (by kernel_rfl) (by kernel_rfl)) (by kernel_rfl) (by kernel_rfl)

/-- A row of texts among the arguments. -/
theorem open_names {H : Type} {enc : TypeId × Value → H} {W : World} {b0 : Nat} {v : Value} {d : DataW H} {ps : List MemPlace} (hval : Value.okWide Tryz.prog W .any b0 34 v) (hd : DataW.Trod enc Tryz.prog W 0 (fun _ => true) true 34 v d ps) :
    ∃ (A : Option Addr) (c : Nat) (l : List Bs), v = .slice A l.length c ∧ Rd W W.heap.size A (strCells l) := by
  obtain ⟨a0, n0, c0, rfl⟩ := okWide_slice Tryz.underlying34 hval
  obtain ⟨fuel, hf⟩ := hd
  rcases Deep.open_strs Tryz.underlying34 Tryz.underlying9 (by kernel_rfl) hf with ⟨e1, -⟩ | ⟨a, len, cap, m, S, e1, -, hl, -, hm, -, hel⟩
  · simp only [Value.cells, List.cons.injEq, and_true] at e1
    cases e1
    exact ⟨none, 0, [], rfl, Rd.nil _ _ _⟩
  · simp only [Value.cells, List.cons.injEq, and_true] at e1
    cases e1
    have hlm : n0 ≤ m := by rw [hm]; simp; exact hl
    refine ⟨some a, c0, (List.range n0).map fun i => (S i).data.toList, by simp, ?_⟩
    intro j u hj
    have hjl : j < n0 := by
      have := (List.getElem?_eq_some_iff.1 hj).1
      simpa [strCells] using this
    obtain ⟨h1, _⟩ := hel j (by omega)
    have hu : u = .string (S j) := by
      simp [strCells, str, hjl] at hj
      rw [← hj]
    rw [hu]
    refine ⟨a, rfl, ?_, h1⟩
    have := World.block_lt_of_cell? _ _ h1
    rwa [add_block] at this
end Go.Proofs.YtkaoechldamggaaGreatDoor
