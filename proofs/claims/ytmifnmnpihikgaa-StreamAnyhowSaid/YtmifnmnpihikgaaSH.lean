/- Rows of bytes among the arguments. -/
import Derived.Test.YtmifnmnpihikgaaSG
import Derived.Test.YtmifnmnpihikgaaHW
import Derived.Test.YtmifnmnpihikgaaRows
namespace Go.Proofs.Ytmifnmnpihikgaa
open Go.RowKit Go.HL Go.WideShapes
set_option linter.unusedVariables false
set_option linter.unusedSimpArgs false
section
variable {H : Type} {enc : TypeId × Value → H} {W : World} {base : Nat} {held : Bool}
theorem open_rowsM {a : Option Addr} {len cap : Nat} {d : DataW H} {ps : List MemPlace} (h : DataW.Trod enc Try.prog W base (fun _ => true) held 22 (.slice a len cap) d ps)
    {ts : List TypeId} {ds : List (DataW H)} {j : Nat} (hsz : (DataW.weightsEach Try.prog ts ds).all (· ≤ reachBytes) = true) (ht : ts[j]? = some 22) (hd : ds[j]? = some d) :
    ∃ X : List Ms, Mss W a len cap X ∧ ∀ m ∈ X, m.c ≤ 140737488351232 := by
  obtain ⟨X, h1, h2⟩ := open_rows Try.underlying22 Try.underlying26 Try.underlying5 (by kernel_rfl) (by kernel_rfl) (by kernel_rfl) h (fun q hq => by simpa using List.all_eq_true.1 hsz _ (DataW.weights_mem_each (P := Try.prog) ht hd q hq))
  refine ⟨X.map (fun h => ⟨h.a, h.n, h.c, h.l⟩), ⟨?_, fun m hm => ?_⟩, fun m hm => ?_⟩
  · have : (X.map (fun h : Hb => (⟨h.a, h.n, h.c, h.l⟩ : Ms))).map Ms.val = X.map Hb.val := by rw [List.map_map]; rfl
    rw [this]
    exact h1.r
  · obtain ⟨x, hx, rfl⟩ := List.mem_map.1 hm
    exact h1.m x hx
  · obtain ⟨x, hx, rfl⟩ := List.mem_map.1 hm
    exact h2 x hx
end
end Go.Proofs.Ytmifnmnpihikgaa
