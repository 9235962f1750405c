/- What a list of laid tables gives the contracts of this seat: the powers of ten, the error variables. -/
import Derived.Test.YtekddgkgeaolnaaDoorGf
import Derived.Test.YtekddgkgeaolnaaDoorTf
import Derived.Test.YtekddgkgeaolnaaDoorRows
import Derived.Lib.LaidTab
namespace Go.Proofs.YtekddgkgeaolnaaDoor
open Go Go.Vc Go.RowKit

theorem gPow : Tryd.prog.globalNamed "internal/strconv.uint64pow10" = some 3 := by kernel_rfl
theorem tPow : (Tryd.prog.globals[3]?).map (·.type) = some 133 := by kernel_rfl
theorem datum : Rows.laid_internal_strconv_uint64pow10 = (Lib.tabData .u64 Lib.pow10Tab : DataW Unit) := by rfl
theorem tabP_of {l : List (String × DataW Unit)} {W : World} (hp : (l.all fun x => x.2.handleName?.isNone) = true) (h : laidMetH Tryd.prog l W) (hm : ("internal/strconv.uint64pow10", Rows.laid_internal_strconv_uint64pow10) ∈ l) : TabP W := by
  obtain ⟨g, t, cs, f, p, h1, h2, h3, h4⟩ := laid_mem hp h hm
  obtain rfl := Option.some.inj (gPow.symm.trans h1)
  obtain rfl := Option.some.inj (tPow.symm.trans h2)
  rw [datum] at h4
  unfold TabP Lib.TabIs
  rw [h3, ← Lib.cells_of_tab (n := 20) (e := 114) Tryd.underlying133 Tryd.underlying114 (by kernel_rfl) (by kernel_rfl) h4]
/-- What parsing wants of the error variables. -/
def ErrP (W : World) : Prop := (∃ u v, W.cell? ⟨0, 0, none⟩ = some (.iface u v)) ∧ ∃ u v, W.cell? ⟨1, 0, none⟩ = some (.iface u v)
theorem ErrP.ext {W w : World} (h : ErrP W) (x : Ext W w) : ErrP w := ⟨h.1.imp fun _ hu => hu.imp fun _ hv => x.cell hv, h.2.imp fun _ hu => hu.imp fun _ hv => x.cell hv⟩
theorem gSyn : Tryd.prog.globalNamed "strconv.ErrSyntax" = some 0 := by kernel_rfl
theorem gRan : Tryd.prog.globalNamed "strconv.ErrRange" = some 1 := by kernel_rfl
theorem tSyn : (Tryd.prog.globals[0]?).map (·.type) = some 68 := by kernel_rfl
theorem tRan : (Tryd.prog.globals[1]?).map (·.type) = some 68 := by kernel_rfl
theorem errP_of {l : List (String × DataW Unit)} {W : World} (hp : (l.all fun x => x.2.handleName?.isNone) = true) (h : laidMetH Tryd.prog l W) (hs : ("strconv.ErrSyntax", Rows.laid_strconv_ErrSyntax) ∈ l) (hr : ("strconv.ErrRange", Rows.laid_strconv_ErrRange) ∈ l) : ErrP W :=
  ⟨laid_iface hp h hs gSyn tSyn Tryd.underlying68, laid_iface hp h hr gRan tRan Tryd.underlying68⟩
end Go.Proofs.YtekddgkgeaolnaaDoor
