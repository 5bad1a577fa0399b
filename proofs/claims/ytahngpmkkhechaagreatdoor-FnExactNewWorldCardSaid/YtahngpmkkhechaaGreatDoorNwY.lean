/- What a row lists of the library's variables, read out of the world: the errors, the powers of ten, a length. -/
import Derived.Test.YtahngpmkkhechaaGreatDoorNwX
import Derived.Test.YtahngpmkkhechaaGreatDoorRows
import Derived.Deep.DeepHandedRow
import Derived.Stop.LaidErr
import Derived.Shelf.Vars
set_option linter.unusedVariables false
set_option linter.unusedSimpArgs false
set_option maxRecDepth 100000
namespace Go.Proofs.YtahngpmkkhechaaGreatDoor.A
open Go Go.RowKit
theorem gTabType : (Tryz.prog.globals[3]?).map (·.type) = some 262 := by kernel_rfl
theorem cellsU : Tryz.prog.cellsOf 221 = 1 := by kernel_rfl
theorem cellsT : Tryz.prog.cellsOf 262 = 20 := by kernel_rfl
theorem gES : Tryz.prog.globalNamed "strconv.ErrSyntax" = some 1 := by kernel_rfl
theorem gESType : (Tryz.prog.globals[1]?).map (·.type) = some 168 := by kernel_rfl
theorem gER : Tryz.prog.globalNamed "strconv.ErrRange" = some 2 := by kernel_rfl
theorem gERType : (Tryz.prog.globals[2]?).map (·.type) = some 168 := by kernel_rfl
theorem cellsES : Tryz.prog.cellsOf 256 = 1 := by kernel_rfl
theorem cells9 : Tryz.prog.cellsOf 9 = 1 := by kernel_rfl
theorem starES : "*" ++ "errors.errorString" = "*errors.errorString" := by decide
theorem rowES (u : TypeId) (h : Tryz.prog.typeName? 3 u = some "*errors.errorString") : u = 254 :=
  typeName_ptr_named (nm := "errors.errorString") (by rw [starES]; kernel_rfl) (by kernel_rfl) (by decide) u (by rw [starES]; exact h)
theorem tabData_is : Rows.laid_internal_strconv_uint64pow10 (H := Unit) = Lib.tabData .u64 Lib.pow10Tab := by kernel_rfl
theorem one_cell {W : World} {g : Nat} {t : TypeId} {zero : Array Value} {v : Value} (h : W.ShapedOpen Tryz.prog) (hg : g < Tryz.prog.globals.size)
    (h0 : ((begin Tryz.prog (fun _ _ => 0) default).world.heap[g]?).bind Obj.row? = some (zero, t)) (hz : zero.size = 1) (hv : W.cell? ⟨g, 0, none⟩ = some v) : ∃ cs t fr, W.heap[g]? = some (.cells cs t fr) ∧ cs = #[v] := by
  obtain ⟨cs, hh, hs, _⟩ := h.1 g zero t hg h0
  refine ⟨cs, t, _, hh, ?_⟩
  rw [hz] at hs
  simp only [World.cell?, hh] at hv
  apply Array.ext'
  obtain ⟨l⟩ := cs
  match l, hs, hv with
  | [x], _, hv => simpa using hv
theorem cells_of_cell {W : World} {b : Nat} {v : Value} (h : W.cell? ⟨b, 0, none⟩ = some v) : ∃ cs t fr, W.heap[b]? = some (.cells cs t fr) ∧ cs[0]? = some v := by
  unfold World.cell? at h
  simp only at h
  cases hc : W.heap[b]? with
  | none => rw [hc] at h; cases h
  | some o =>
    rw [hc] at h
    cases o <;> simp only [reduceCtorEq] at h
    exact ⟨_, _, _, rfl, h⟩
theorem table {W : World} {r0 r1 : DataW Unit} {r : List (String × DataW Unit)} {n0 n1 : String}
    (h : laidMet Tryz.prog ((n0, r0) :: (n1, r1) :: ("internal/strconv.uint64pow10", Rows.laid_internal_strconv_uint64pow10) :: ("strconv.ErrRange", Rows.laid_strconv_ErrRange) :: ("strconv.ErrSyntax", Rows.laid_strconv_ErrSyntax) :: r) W)
    (hsh : W.ShapedOpen Tryz.prog) : ∀ x ∈ globs, ∃ cs t fr, W.heap[x.1]? = some (.cells cs t fr) ∧ x.2 cs := by
  have h3 := laidMet.tail (laidMet.tail h)
  have h5 := laidMet.tail h3
  have h6 := laidMet.tail h5
  rw [tabData_is] at h3
  have htab : Lib.TabIs Tryz.prog W "internal/strconv.uint64pow10" .u64 Lib.pow10Tab := Lib.tabIs_of_head gTab gTabType Tryz.underlying262 Tryz.underlying221 cellsU cellsT h3
  obtain ⟨a1, s1, hv1, -, -, -⟩ := laid_sentinel h5 gER gERType Tryz.underlying168 rowES Tryz.underlying254 Tryz.underlying256 rfl rfl Tryz.underlying9 cellsES cells9
  obtain ⟨a2, s2, hv2, -, -, -⟩ := laid_sentinel h6 gES gESType Tryz.underlying168 rowES Tryz.underlying254 Tryz.underlying256 rfl rfl Tryz.underlying9 cellsES cells9
  have c1 : W.cell? ⟨2, 0, none⟩ = some (.iface 254 (.pointer (some a1))) := by have h0 := World.var?_cell gER hv1 0; simpa using h0
  have c2 : W.cell? ⟨1, 0, none⟩ = some (.iface 254 (.pointer (some a2))) := by have h0 := World.var?_cell gES hv2 0; simpa using h0
  intro x hx
  simp only [globs, List.mem_cons, List.not_mem_nil, or_false] at hx
  rcases hx with rfl | rfl | rfl
  · obtain ⟨cs, t, fr, g1, g2⟩ := one_cell (g := 1) (zero := #[.nilIface]) (t := 168) hsh (of_decide_eq_true (by kernel_rfl)) (by kernel_rfl) rfl c2
    exact ⟨cs, t, fr, g1, _, g2, .inr ⟨_, _, rfl⟩⟩
  · obtain ⟨cs, t, fr, g1, g2⟩ := one_cell (g := 2) (zero := #[.nilIface]) (t := 168) hsh (of_decide_eq_true (by kernel_rfl)) (by kernel_rfl) rfl c1
    exact ⟨cs, t, fr, g1, _, g2, .inr ⟨_, _, rfl⟩⟩
  · simp only [Lib.TabIs, World.var?, gTab, Option.bind_some] at htab
    simp only
    cases hc : W.heap[3]? with
    | none => rw [hc] at htab; cases htab
    | some o =>
      rw [hc] at htab
      cases o <;> simp only [reduceCtorEq, Option.some.injEq] at htab
      subst htab
      exact ⟨_, _, _, rfl, rfl⟩

/-- no row of bytes lies in a variable that calls lean on -/
theorem bytes_apart {W : World} (hgl : ∀ x ∈ globs, ∃ cs t fr, W.heap[x.1]? = some (.cells cs t fr) ∧ x.2 cs) {k o : Nat} {b : Int} (h : W.cell? ⟨k, o, none⟩ = some (.int .u8 b)) : ¬ gX k := by
  rintro ⟨x, hx, rfl⟩
  obtain ⟨cs, t, fr, g1, g2⟩ := hgl x hx
  simp only [World.cell?, g1] at h
  simp only [globs, List.mem_cons, List.not_mem_nil, or_false] at hx
  rcases hx with rfl | rfl | rfl
  · obtain ⟨v, rfl, hv⟩ := g2
    match o, h with
    | 0, h => rcases hv with rfl | ⟨_, _, rfl⟩ <;> simp at h
    | o + 1, h => simp at h
  · obtain ⟨v, rfl, hv⟩ := g2
    match o, h with
    | 0, h => rcases hv with rfl | ⟨_, _, rfl⟩ <;> simp at h
    | o + 1, h => simp at h
  · simp only at g2
    subst g2
    simp only [List.getElem?_toArray, List.getElem?_map] at h
    cases hz : Lib.pow10Tab[o]? with
    | none => rw [hz] at h; simp at h
    | some z => rw [hz] at h; simp at h
theorem bytes_args {W : World} (hgl : ∀ x ∈ globs, ∃ cs t fr, W.heap[x.1]? = some (.cells cs t fr) ∧ x.2 cs) {rs : List (List D)} (hr : ∀ r ∈ rs, ∃ b : Nat, b < 256 ∧ r = [.int .u8 b]) {vs : List Value} (h : VL W nix noPl [.sl rs] vs) : VL W gX noPl [.sl rs] vs := by
  simp only [VL, V] at h ⊢
  obtain ⟨v, vs', e1, ⟨oa, cap, e2, hc, ho⟩, e3⟩ := h
  refine ⟨v, vs', e1, ⟨oa, cap, e2, hc, ?_⟩, e3⟩
  rcases ho with ho | ⟨a, sz, h1, h2, h3, _, h5⟩
  · exact .inl ho
  · have move : ∀ (l : List (List D)) (k o sz : Nat), (∀ r ∈ l, ∃ b : Nat, b < 256 ∧ r = [.int .u8 b]) → VRows W nix l k o sz → VRows W gX l k o sz := by
      intro l
      induction l with
      | nil => intros; simp [VRows]
      | cons r l ih =>
        intro k o sz hl hv
        obtain ⟨b, _, rfl⟩ := hl r (by simp)
        simp only [VRows, VRow, V] at hv ⊢
        exact ⟨hv.1, hv.2.1, ih _ _ _ (fun r hr => hl r (by simp [hr])) hv.2.2⟩
    cases rs with
    | nil => exact .inl rfl
    | cons r l =>
      right
      refine ⟨a, sz, h1, h2, h3, ?_, move _ _ _ _ hr h5⟩
      obtain ⟨b, _, rfl⟩ := hr r (by simp)
      simp only [VRows, VRow, V] at h5
      obtain ⟨_, ⟨⟨v, hv, _, rfl⟩, _⟩, _⟩ := h5
      exact bytes_apart hgl hv

theorem bytes_args2 {W : World} (hgl : ∀ x ∈ globs, ∃ cs t fr, W.heap[x.1]? = some (.cells cs t fr) ∧ x.2 cs) {rs qs : List (List D)} (hr : ∀ r ∈ rs, ∃ b : Nat, b < 256 ∧ r = [.int .u8 b]) (hq : ∀ r ∈ qs, ∃ b : Nat, b < 256 ∧ r = [.int .u8 b]) {vs : List Value} (h : VL W nix noPl [.sl rs, .sl qs] vs) : VL W gX noPl [.sl rs, .sl qs] vs := by
  have sp : ∀ (Y : Nat → Prop), VL W Y noPl [.sl rs, .sl qs] vs ↔ ∃ v v', vs = [v, v'] ∧ VL W Y noPl [.sl rs] [v] ∧ VL W Y noPl [.sl qs] [v'] := fun Y => by
    simp only [VL]
    constructor
    · rintro ⟨v, l, rfl, hv, v', l', rfl, hv', rfl⟩
      exact ⟨v, v', rfl, ⟨v, [], rfl, hv, rfl⟩, ⟨v', [], rfl, hv', rfl⟩⟩
    · rintro ⟨v, v', rfl, ⟨u, l, e, hu, e'⟩, ⟨u', l', e1, hu', e1'⟩⟩
      cases e; cases e1
      exact ⟨_, _, rfl, hu, _, _, rfl, hu', rfl⟩
  obtain ⟨v, v', e, h1, h2⟩ := (sp _).1 h
  exact (sp _).2 ⟨v, v', e, bytes_args hgl hr h1, bytes_args hgl hq h2⟩

/-! ### a world for the witness: the settled one, the tables laid -/
def setCells (cs : Array Value) : Obj → Obj
  | .cells _ t frozen => .cells cs t frozen
  | o => o
def litV : Lit → Value
  | .int k n => .int k n
  | _ => Go.undef
def cellsD : DataW Unit → Array Value
  | .agg ps => (ps.flatMap fun p => match p with
    | .lit l => [litV l]
    | .agg qs => qs.map fun q => match q with | .lit l => litV l | _ => Go.undef
    | _ => []).toArray
  | _ => #[]
abbrev synS : ByteArray := { data := #[105, 110, 118, 97, 108, 105, 100, 32, 115, 121, 110, 116, 97, 120] }
abbrev rngS : ByteArray := { data := #[118, 97, 108, 117, 101, 32, 111, 117, 116, 32, 111, 102, 32, 114, 97, 110, 103, 101] }
noncomputable def low : Nat := (World.holding Tryz.prog default ⟨#[], #[], []⟩).heap.size
noncomputable def laidWorld (os : Os) : World :=
  let w0 := World.holding Tryz.prog os ⟨#[.cells #[.string synS] 256, .cells #[.string rngS] 256], #[], []⟩
  { w0 with heap := (((((w0.heap.modify 1 (setCells #[.iface 254 (.pointer (some ⟨low, 0, none⟩))])).modify 2 (setCells #[.iface 254 (.pointer (some ⟨low + 1, 0, none⟩))])).modify 3 (setCells (Lib.pow10Tab.map fun z => Value.int .u64 z).toArray)).modify 4 (setCells (cellsD Rows.laid_math_bits_deBruijn32tab))).modify 5 (setCells (cellsD Rows.laid_math_bits_deBruijn64tab))) }
end Go.Proofs.YtahngpmkkhechaaGreatDoor.A
