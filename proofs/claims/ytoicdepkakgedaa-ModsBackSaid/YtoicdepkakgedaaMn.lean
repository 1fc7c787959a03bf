/- The small known case of layer 18, in plain Lean. -/
import Derived.Test.YtoicdepkakgedaaMm
namespace Go.Proofs.Ytoicdepkakgedaa
open Go.RowKit
set_option linter.unusedVariables false
set_option linter.unusedSimpArgs false

def exA : List UInt8 := List.replicate 1024 97
theorem exA_len : exA.length = 1024 := List.length_replicate
def exL : List Md := [⟨3, ⟨#[120]⟩⟩, ⟨5, ⟨#[121]⟩⟩, ⟨20, ⟨#[122]⟩⟩]
def exD : List Md := [⟨3, ⟨#[120, 97, 121]⟩⟩, ⟨20, ⟨#[122]⟩⟩]
def exE : List Md := [⟨258, ⟨#[97, 98]⟩⟩]
def exB : ByteArray := ⟨(applyL exA exL).toArray⟩
theorem ex_enc : encS 1024 exE = ⟨#[2, 1, 2, 0, 97, 98]⟩ ∧ encE 1024 exE = 0 := by decide +kernel
theorem ex_blank : blankS 1024 97 = ⟨exA.toArray⟩ := rfl
theorem ex_size : (blankS 1024 97).size = 1024 := blankS_size _ _
theorem ex_all : (pageB 1024 && allB 1024 exL) = true := by decide +kernel
theorem ex_app : appS (blankS 1024 97) exL = exB ∧ appE (blankS 1024 97) exL = 0 := by
  obtain ⟨h1, h2⟩ := app_ok (t := blankS 1024 97) (l := exL) (by rw [ex_size]; exact ex_all)
  exact ⟨h1, h2⟩
theorem ex_sizeB : exB.size = 1024 := by
  have := applyL_length exA exL (by rw [exA_len]; exact (Bool.and_eq_true _ _ ▸ ex_all).2)
  show (applyL exA exL).toArray.size = 1024
  rw [List.size_toArray, this, exA_len]
theorem ex_dec : decE 1024 ⟨#[97, 98, 99]⟩ = 7 := by decide +kernel
theorem ex_app2 : appE ⟨#[97]⟩ [] = 2 := by decide +kernel
theorem ex_n : sizeN exD = 12 := by decide +kernel
theorem ex_pages : pageB 16384 = true ∧ pageB 1000 = false ∧ pageB 1024 = true := by decide +kernel
theorem ex_runs : dlist (differs (blankS 1024 97) exB) 1024 = [(3, 6), (20, 21)] := by decide +kernel
theorem ex_ext : exB.extract 3 6 = ⟨#[120, 97, 121]⟩ ∧ exB.extract 20 21 = ⟨#[122]⟩ := by
  constructor
  · apply ByteArray.ext; apply Array.ext'
    rw [Lib.extract_data]
    decide +kernel
  · apply ByteArray.ext; apply Array.ext'
    rw [Lib.extract_data]
    decide +kernel
theorem ex_diff : difV (blankS 1024 97) exB = exD ∧ difE (blankS 1024 97) exB = 0 := by
  obtain ⟨h1, h2⟩ := dif_ok (a := blankS 1024 97) (b := exB) (by unfold difB; rw [ex_size, ex_sizeB]; decide +kernel)
  refine ⟨?_, h2⟩
  rw [h1, ex_size, ex_runs]
  simp only [List.map, runM, ex_ext.1, ex_ext.2]
  rfl
end Go.Proofs.Ytoicdepkakgedaa
