/- What the listed variables of the ring's rows give a walk; a world that meets the condition. No condition of its own. -/
import Derived.Test.YtjpjpdmceliofaaDoorRows
import Derived.Test.YtjpjpdmceliofaaDoorKL
import Derived.Test.YtjpjpdmceliofaaDoorRingC
import Derived.Lib.LaidTab
import Derived.Stop.LaidErr
import Derived.LaidSub
import Derived.MakeChecks
import Derived.Stop.ErrReads
namespace Go.Proofs.YtjpjpdmceliofaaDoor.RowRing
open Go.ChangeShapes Go.WideShapes Go.ChangeAt Go.RowKit Go.Kx Go.Proofs

def laid : List (String × DataW Unit) := [("math/bits.deBruijn32tab", Rows.laid_math_bits_deBruijn32tab), ("math/bits.deBruijn64tab", Rows.laid_math_bits_deBruijn64tab), ("internal/strconv.uint64pow10", Rows.laid_internal_strconv_uint64pow10), ("strconv.ErrRange", Rows.laid_strconv_ErrRange), ("strconv.ErrSyntax", Rows.laid_strconv_ErrSyntax)]
theorem own : ownKnob Tryd.prog.godebug = none := by kernel_rfl
theorem laidOut : laidOutB Tryd.prog = true := by kernel_rfl
theorem star : "*" ++ "errors.errorString" = "*errors.errorString" := by decide
theorem rowE (u : TypeId) (h : Tryd.prog.typeName? 3 u = some "*errors.errorString") : u = 158 :=
  typeName_ptr_named (nm := "errors.errorString") (by rw [star]; kernel_rfl) (by kernel_rfl) (by decide) u (by rw [star]; exact h)
theorem gP : Tryd.prog.globalNamed "internal/strconv.uint64pow10" = some 3 := by kernel_rfl
theorem gS : Tryd.prog.globalNamed "strconv.ErrSyntax" = some 0 := by kernel_rfl
theorem gR : Tryd.prog.globalNamed "strconv.ErrRange" = some 1 := by kernel_rfl
theorem one {W : World} (h : laidMetH Tryd.prog laid W) (nm : String) (d : DataW Unit) (e : laid.filter (fun x => x.1 == nm) = [(nm, d)]) (hp : d.handleName?.isNone = true) : laidMet Tryd.prog [(nm, d)] W := by
  have h1 := h.filter fun x => x.1 == nm
  rw [e, Go.MakeChecks.laidMetH_plain _ _ _ (by simp [hp])] at h1
  exact h1
theorem gd {W : World} (h : laidMetH Tryd.prog laid W) : Gd W fun _ => False := by
  have h1 := one h "internal/strconv.uint64pow10" Rows.laid_internal_strconv_uint64pow10 (by kernel_rfl) (by kernel_rfl)
  have h2 : laidMet Tryd.prog [("internal/strconv.uint64pow10", Lib.tabData .u64 Lib.pow10Tab)] W := by
    rw [show (Lib.tabData .u64 Lib.pow10Tab : DataW Unit) = Rows.laid_internal_strconv_uint64pow10 by kernel_rfl]
    exact h1
  have h3 : W.var? Tryd.prog "internal/strconv.uint64pow10" = some (Lib.pow10Tab.map fun z => Value.int .u64 z).toArray := Lib.tabIs_of_head gP (by kernel_rfl) Tryd.underlying154 Tryd.underlying101 (by kernel_rfl) (by kernel_rfl) h2
  unfold World.var? at h3
  rw [gP] at h3
  simp only [Option.bind_some] at h3
  intro g cs hg
  refine ⟨?_, fun hf => hf⟩
  unfold Gl at hg
  split at hg
  · rename_i hb
    subst hb
    injection hg with hg
    subst hg
    split at h3
    · rename_i cs t z hh
      injection h3 with h3
      subst h3
      exact ⟨t, z, by rw [hh]; rfl⟩
    · cases h3
  · cases hg
theorem errH {W : World} (h : laidMetH Tryd.prog laid W) : Go.Kx.Ring.ErrH (heapOf W) := by
  rintro g (rfl | rfl)
  · have h1 := one h "strconv.ErrSyntax" Rows.laid_strconv_ErrSyntax (by kernel_rfl) (by kernel_rfl)
    obtain ⟨a1, s1, hv1, hc1, hs1, hz1⟩ := laid_sentinel h1 gS (by kernel_rfl) (ti := 61) Tryd.underlying61 rowE Tryd.underlying158 Tryd.underlying160 rfl rfl Tryd.underlying9 (by kernel_rfl) (by kernel_rfl)
    exact ⟨_, _, by simpa [heapOf] using World.var?_cell gS hv1 0⟩
  · have h1 := one h "strconv.ErrRange" Rows.laid_strconv_ErrRange (by kernel_rfl) (by kernel_rfl)
    obtain ⟨a1, s1, hv1, hc1, hs1, hz1⟩ := laid_sentinel h1 gR (by kernel_rfl) (ti := 61) Tryd.underlying61 rowE Tryd.underlying158 Tryd.underlying160 rfl rfl Tryd.underlying9 (by kernel_rfl) (by kernel_rfl)
    exact ⟨_, _, by simpa [heapOf] using World.var?_cell gR hv1 0⟩
noncomputable def low (os : Os) : Nat := (World.holding Tryd.prog os ⟨#[], #[], []⟩).heap.size
def rangeS : ByteArray := ⟨#[118, 97, 108, 117, 101, 32, 111, 117, 116, 32, 111, 102, 32, 114, 97, 110, 103, 101]⟩
def syntaxS : ByteArray := ⟨#[105, 110, 118, 97, 108, 105, 100, 32, 115, 121, 110, 116, 97, 120]⟩
def litsOf : DataW Unit → Array Value
  | .agg l => (l.filterMap fun
    | .lit (.int k v) => some (Value.int k v)
    | _ => none).toArray
  | _ => #[]
/-- A world that meets the condition. -/
noncomputable def laidWorld (os : Os) : World :=
  let w0 := World.holding Tryd.prog os ⟨#[.cells #[.string rangeS] 160, .cells #[.string syntaxS] 160], #[], []⟩
  { w0 with heap := ((((w0.heap.modify 6 fun
      | .cells _ t z => .cells (litsOf Rows.laid_math_bits_deBruijn32tab) t z
      | o => o).modify 7 fun
      | .cells _ t z => .cells (litsOf Rows.laid_math_bits_deBruijn64tab) t z
      | o => o).modify 3 fun
      | .cells _ t z => .cells (litsOf Rows.laid_internal_strconv_uint64pow10) t z
      | o => o).modify 1 fun
      | .cells _ t z => .cells #[.iface 158 (.pointer (some ⟨low os, 0, Option.none⟩))] t z
      | o => o).modify 0 fun
      | .cells _ t z => .cells #[.iface 158 (.pointer (some ⟨low os + 1, 0, Option.none⟩))] t z
      | o => o }
theorem laidWorld_met (os : Os) (args : Array Value) : laidMetH Tryd.prog laid ((laidWorld os).forCall (fun _ _ => 0) ⟨#[], args, []⟩).memory := by
  rw [Go.MakeChecks.laidMetH_plain _ _ _ (by kernel_rfl)]
  exact laidMet_of_run' 8 (by kernel_rfl) (by kernel_rfl)
end Go.Proofs.YtjpjpdmceliofaaDoor.RowRing
