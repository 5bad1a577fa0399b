/- What a row lists of the library's variables, read out of the world: the errors, the powers of ten, a length. -/
import Derived.Test.YtdijllogmnbjkaaDoorRdX
import Derived.Test.YtdijllogmnbjkaaDoorRows
import Derived.Deep.DeepHandedRow
import Derived.Stop.LaidErr
import Derived.Shelf.Vars
set_option linter.unusedVariables false
set_option linter.unusedSimpArgs false
set_option maxRecDepth 100000
namespace Go.Proofs.YtdijllogmnbjkaaDoor.A
open Go Go.RowKit
theorem gTabType : (Tryd.prog.globals[5]?).map (·.type) = some 110 := by kernel_rfl
theorem cellsU : Tryd.prog.cellsOf 85 = 1 := by kernel_rfl
theorem cellsT : Tryd.prog.cellsOf 110 = 20 := by kernel_rfl
theorem gES : Tryd.prog.globalNamed "strconv.ErrSyntax" = some 1 := by kernel_rfl
theorem gESType : (Tryd.prog.globals[1]?).map (·.type) = some 55 := by kernel_rfl
theorem gER : Tryd.prog.globalNamed "strconv.ErrRange" = some 2 := by kernel_rfl
theorem gERType : (Tryd.prog.globals[2]?).map (·.type) = some 55 := by kernel_rfl
theorem cellsES : Tryd.prog.cellsOf 103 = 1 := by kernel_rfl
theorem cells9 : Tryd.prog.cellsOf 9 = 1 := by kernel_rfl
theorem starES : "*" ++ "errors.errorString" = "*errors.errorString" := by decide
theorem rowES (u : TypeId) (h : Tryd.prog.typeName? 3 u = some "*errors.errorString") : u = 101 :=
  typeName_ptr_named (nm := "errors.errorString") (by rw [starES]; kernel_rfl) (by kernel_rfl) (by decide) u (by rw [starES]; exact h)
theorem tabData_is : Rows.laid_internal_strconv_uint64pow10 (H := Unit) = Lib.tabData .u64 Lib.pow10Tab := by kernel_rfl
theorem cells_of_cell {W : World} {b : Nat} {v : Value} (h : W.cell? ⟨b, 0, none⟩ = some v) : ∃ cs t fr, W.heap[b]? = some (.cells cs t fr) ∧ cs[0]? = some v := by
  unfold World.cell? at h
  simp only at h
  cases hc : W.heap[b]? with
  | none => rw [hc] at h; cases h
  | some o =>
    rw [hc] at h
    cases o <;> simp only [reduceCtorEq] at h
    exact ⟨_, _, _, rfl, h⟩
theorem table {W : World} {r0 r1 : DataW Unit} {r : List (String × DataW Unit)} {n0 n1 n2 : String} {d2 : DataW Unit}
    (h : laidMet Tryd.prog ((n0, r0) :: (n1, r1) :: ("internal/strconv.uint64pow10", Rows.laid_internal_strconv_uint64pow10) :: (n2, d2) :: ("strconv.ErrRange", Rows.laid_strconv_ErrRange) :: ("strconv.ErrSyntax", Rows.laid_strconv_ErrSyntax) :: r) W)
    (hsh : W.ShapedOpen Tryd.prog) : ∀ x ∈ globs, ∃ cs t fr, W.heap[x.1]? = some (.cells cs t fr) ∧ x.2 cs := by
  have h3 := laidMet.tail (laidMet.tail h)
  have h5 := laidMet.tail (laidMet.tail h3)
  have h6 := laidMet.tail h5
  rw [tabData_is] at h3
  have htab : Lib.TabIs Tryd.prog W "internal/strconv.uint64pow10" .u64 Lib.pow10Tab := Lib.tabIs_of_head gTab gTabType Tryd.underlying110 Tryd.underlying85 cellsU cellsT h3
  obtain ⟨a1, s1, hv1, -, -, -⟩ := laid_sentinel h5 gER gERType Tryd.underlying55 rowES Tryd.underlying101 Tryd.underlying103 rfl rfl Tryd.underlying9 cellsES cells9
  obtain ⟨a2, s2, hv2, -, -, -⟩ := laid_sentinel h6 gES gESType Tryd.underlying55 rowES Tryd.underlying101 Tryd.underlying103 rfl rfl Tryd.underlying9 cellsES cells9
  have c1 : W.cell? ⟨2, 0, none⟩ = some (.iface 101 (.pointer (some a1))) := by have h0 := World.var?_cell gER hv1 0; simpa using h0
  have c2 : W.cell? ⟨1, 0, none⟩ = some (.iface 101 (.pointer (some a2))) := by have h0 := World.var?_cell gES hv2 0; simpa using h0
  obtain ⟨m, c0⟩ := cell_of_shapedOpen_int (w := W) (P := Tryd.prog) (g := 0) (zero := #[.int .i64 0]) (t := 3) hsh (of_decide_eq_true (by kernel_rfl)) (by kernel_rfl) rfl (by kernel_rfl) (by kernel_rfl) Tryd.underlying3
  intro x hx
  simp only [globs, List.mem_cons, List.not_mem_nil, or_false] at hx
  rcases hx with rfl | rfl | rfl | rfl
  · obtain ⟨cs, t, fr, g1, g2⟩ := cells_of_cell c0
    exact ⟨cs, t, fr, g1, m, g2⟩
  · obtain ⟨cs, t, fr, g1, g2⟩ := cells_of_cell c2
    exact ⟨cs, t, fr, g1, _, g2, .inr ⟨_, _, rfl⟩⟩
  · obtain ⟨cs, t, fr, g1, g2⟩ := cells_of_cell c1
    exact ⟨cs, t, fr, g1, _, g2, .inr ⟨_, _, rfl⟩⟩
  · simp only [Lib.TabIs, World.var?, gTab, Option.bind_some] at htab
    simp only
    cases hc : W.heap[5]? with
    | none => rw [hc] at htab; cases htab
    | some o =>
      rw [hc] at htab
      cases o <;> simp only [reduceCtorEq, Option.some.injEq] at htab
      subst htab
      exact ⟨_, _, _, rfl, rfl⟩

/-! ### a world for the witness: the settled one, the tables laid -/
def setCells (cs : Array Value) : Obj → Obj
  | .cells _ t frozen => .cells cs t frozen
  | o => o
def litV : Lit → Value
  | .int k n => .int k n
  | _ => Go.undef
def cellsD : DataW Unit → Array Value
  | .agg ps => (ps.flatMap fun p => match p with
    | .lit l => [litV l]
    | .agg qs => qs.map fun q => match q with | .lit l => litV l | _ => Go.undef
    | _ => []).toArray
  | _ => #[]
abbrev synS : ByteArray := { data := #[105, 110, 118, 97, 108, 105, 100, 32, 115, 121, 110, 116, 97, 120] }
abbrev rngS : ByteArray := { data := #[118, 97, 108, 117, 101, 32, 111, 117, 116, 32, 111, 102, 32, 114, 97, 110, 103, 101] }
noncomputable def low : Nat := (World.holding Tryd.prog default ⟨#[], #[], []⟩).heap.size
noncomputable def laidWorld (os : Os) : World :=
  let w0 := World.holding Tryd.prog os ⟨#[.cells #[.string synS] 103, .cells #[.string rngS] 103], #[], []⟩
  { w0 with heap := ((((((w0.heap.modify 1 (setCells #[.iface 101 (.pointer (some ⟨low, 0, none⟩))])).modify 2 (setCells #[.iface 101 (.pointer (some ⟨low + 1, 0, none⟩))])).modify 3 (setCells (cellsD Rows.laid_unicode_utf8_first))).modify 4
    (setCells (cellsD Rows.laid_unicode_utf8_acceptRanges))).modify 5 (setCells (Lib.pow10Tab.map fun z => Value.int .u64 z).toArray)).modify 6 (setCells (cellsD Rows.laid_math_bits_deBruijn32tab))).modify 7 (setCells (cellsD Rows.laid_math_bits_deBruijn64tab)) }
end Go.Proofs.YtdijllogmnbjkaaDoor.A
