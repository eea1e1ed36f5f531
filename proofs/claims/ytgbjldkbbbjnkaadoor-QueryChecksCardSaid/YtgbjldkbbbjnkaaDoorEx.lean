/-
  The examples of the chapter: plain facts.
-/
import Derived.Test.YtgbjldkbbbjnkaaDoorPrint
import Derived.Test.YtgbjldkbbbjnkaaDoorParse
namespace Go.Proofs.YtgbjldkbbbjnkaaDoor
open Go.RowKit Go.PlainAid Pl

def wq (l : List UInt8) : Qt := .mk 0 2 (str l) []
def q0 : Qt := .mk 1 0 ⟨#[]⟩ [wq [98, 97, 42], wq [42, 109, 105]]
theorem pe_a : pe (str [98, 97, 42]) = 0 := by kernel_rfl
theorem pe_b : pe (str [42, 109, 105]) = 0 := by kernel_rfl
theorem pe_c : pe (str [40, 97, 32, 98, 41]) = 0 := by kernel_rfl
theorem chk_q0 : chk pe q0 = 0 := by kernel_rfl
theorem chk_wc : chk pe (wq [40, 97, 32, 98, 41]) = 0 := by kernel_rfl
theorem chk_and : chk pe (.mk 1 0 ⟨#[]⟩ []) = 28 := by kernel_rfl
theorem prn_q0 : str (prn q0) = ⟨#[40, 97, 110, 100, 32, 119, 111, 114, 100, 58, 98, 97, 42, 32, 119, 111, 114, 100, 58, 42, 109, 105, 41]⟩ := by kernel_rfl
theorem prn_wc : str (prn (wq [40, 97, 32, 98, 41])) = ⟨#[119, 111, 114, 100, 58, 37, 50, 56, 97, 37, 50, 48, 98, 37, 50, 57]⟩ := by kernel_rfl
theorem prs_q0 : prs ⟨#[40, 97, 110, 100, 32, 119, 111, 114, 100, 58, 98, 97, 42, 32, 119, 111, 114, 100, 58, 42, 109, 105, 41]⟩ = .inl q0 := by kernel_rfl
theorem prs_or : prs ⟨#[40, 111, 114, 32, 119, 111, 114, 100, 58, 97, 41]⟩ = .inr 10 := by kernel_rfl
theorem sz_q0 : sz q0 = 3 := rfl
theorem dp_q0 : dp q0 = 2 := rfl
end Go.Proofs.YtgbjldkbbbjnkaaDoor
