/-
  What an argument that is a slice of bytes comes as.
-/
import Derived.Test.YtcnjllnnhcafbaaDoorIgPick
set_option linter.unusedVariables false
namespace Go.Ig
open Go

def tyBs : Ty := .slice .u8
theorem flat_bytes : ∀ {css : List (List V)} {x : List UInt8}, css.length = x.length → (∀ (i : Nat) (y : UInt8) (c : List V), x[i]? = some y → css[i]? = some c → c = [.u8 y]) → css.flatten = x.map V.u8
  | [], [], _, _ => rfl
  | [], _ :: _, h, _ => by simp at h
  | _ :: _, [], h, _ => by simp at h
  | c :: css, y :: x, h, hh => by
    have h1 := hh 0 y c rfl rfl
    subst h1
    rw [List.flatten_cons, flat_bytes (by simpa using h) (fun i y c h1 h2 => hh (i + 1) y c (by simpa using h1) (by simpa using h2))]
    rfl
theorem bytes_of {m : Mem} {x : List UInt8} {vs : List V} (h : Ty.Holds m (.slice .u8) x vs) :
    (x = [] ∧ vs = [.nils]) ∨ (x = [] ∧ vs = [.emp]) ∨ ∃ b cap, vs = [.slice b 0 0 1 x.length cap] ∧ x.length ≤ cap ∧ cap ≤ maxLen ∧ m.cells? b 0 0 x.length = some (x.map V.u8) ∧ m.firm b 0 = true := by
  rcases h with ⟨h, rfl | rfl⟩ | ⟨b, cap, css, rfl, hc, hm, hl, hcs, hf, hh⟩
  · exact .inl ⟨h, rfl⟩
  · exact .inr (.inl ⟨h, rfl⟩)
  · refine .inr (.inr ⟨b, cap, rfl, hc, hm, ?_, hf⟩)
    rw [show (Ty.size .u8) = 1 from rfl, Nat.mul_one] at hcs
    exact hcs.trans (congrArg some (flat_bytes hl (fun i y c h1 h2 => (hh i y c h1 h2).2)))
end Go.Ig
