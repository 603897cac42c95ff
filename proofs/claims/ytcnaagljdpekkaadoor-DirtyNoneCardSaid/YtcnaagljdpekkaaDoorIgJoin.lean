/-
  What a call that made its own leaves, set behind what lay there.
-/
import Derived.Test.YtcnaagljdpekkaaDoorIgBytes
set_option linter.unusedVariables false
namespace Go.Ig
open Go Go.RowKit

/-- Old blocks as they lay, the new ones (from n1 on in the small memory) behind them. -/
def jJoin (n n1 : Nat) (j j1 : J) : J := fun b g => if b < n then j b g else j1 (b - n + n1) g
theorem jJoin_old {n n1 : Nat} {j j1 : J} {b g : Nat} (h : b < n) : jJoin n n1 j j1 b g = j b g := by unfold jJoin; rw [if_pos h]
theorem jJoin_new {n n1 : Nat} {j j1 : J} {b g : Nat} : jJoin n n1 j j1 (n + b) g = j1 (n1 + b) g := by
  unfold jJoin
  rw [if_neg (by omega)]
  congr 1
  omega

theorem mrJoin {P : Program} {n0 : Nat} {w0 : World} {gs : List Nat} {j j0 j1 : J} {m m0 m1 : Mem} {w w' : World} (hM : MR P n0 w0 gs j m w) (hM0 : MR P w.heap.size w [] j0 m0 w) (hM1 : MR P w.heap.size w [] j1 m1 w') (hG : Grows j0 m0 w j1 m1 w')
    {new : List (List UInt8)} (hnew : m1.objs = m0.objs ++ new.map fun l => Obj.u8 l (.vec 0)) :
    MR P n0 w0 gs (jJoin m.objs.length m0.objs.length j j1) ⟨m.objs ++ new.map fun l => Obj.u8 l (.vec 0), m.guard⟩ w' ∧
      Grows j m w (jJoin m.objs.length m0.objs.length j j1) ⟨m.objs ++ new.map fun l => Obj.u8 l (.vec 0), m.guard⟩ w' := by
  have hsize : w.heap.size ≤ w'.heap.size := hM1.n0le
  have hk : ∀ c, c < w.heap.size → w'.heap[c]? = w.heap[c]? := fun c hc => hM1.old c hc
  obtain ⟨hF, -⟩ := hM.frame hsize hk hM1.str
  have hdom : ∀ {i g : Nat} {L : Loc}, j i g = some L → i < m.objs.length ∧ L.c < w.heap.size := fun h => hM.dom _ _ _ h
  have hle : j.le (jJoin m.objs.length m0.objs.length j j1) := by
    intro b g L h
    rw [jJoin_old (hdom h).1]
    exact h
  have hfresh : ∀ {b g : Nat} {L : Loc}, j1 (m0.objs.length + b) g = some L → w.heap.size ≤ L.c := by
    intro b g L h
    rcases hG.newR _ _ _ h with h | h | ⟨g0, L0, h, -⟩
    · have := (hM0.dom _ _ _ h).1; omega
    · exact h
    · have := (hM0.dom _ _ _ h).1; omega
  have hat : ∀ {i : Nat} {o : Obj}, (m.objs ++ new.map fun l => Obj.u8 l (.vec 0))[i]? = some o → (i < m.objs.length ∧ m.objs[i]? = some o) ∨ ∃ b l, i = m.objs.length + b ∧ new[b]? = some l ∧ o = .u8 l (.vec 0) ∧ m1.objs[m0.objs.length + b]? = some o := by
    intro i o hi
    rw [List.getElem?_append] at hi
    split at hi
    · rename_i h; exact .inl ⟨h, hi⟩
    · rename_i h
      rw [List.getElem?_map] at hi
      obtain ⟨l, hl, rfl⟩ := Option.map_eq_some_iff.1 hi
      refine .inr ⟨i - m.objs.length, l, by omega, hl, rfl, ?_⟩
      rw [hnew, List.getElem?_append_right (by omega), Nat.add_sub_cancel_left, List.getElem?_map, hl]
      rfl
  have hlen : (new.map fun l => Obj.u8 l (.vec 0)).length = new.length := by simp
  have hlen1 : m1.objs.length = m0.objs.length + new.length := by rw [hnew]; simp
  refine ⟨⟨?_, ?_, ?_, fun c hc => ?_, Nat.le_trans hM.n0le hsize, fun g hg => hle _ _ _ (hM.glob g hg), ?_, ?_, ?_, hM.str.trans hM1.str⟩, ⟨hle, ?_, rfl, hsize, fun c hc _ => hk c hc, ?_, ?_⟩⟩
  · intro i o L hi hL
    rcases hat hi with ⟨h1, h2⟩ | ⟨b, l, rfl, hl, rfl, h2⟩
    · rw [jJoin_old h1] at hL
      exact (hF.objs i o L h2 hL).mono hle
    · rw [jJoin_new] at hL
      obtain ⟨hc, hs, hn, nn, hr, hb⟩ := hM1.objs _ _ L h2 hL
      exact ⟨hc, hs, Nat.le_trans hM.n0le hn, nn, hr, hb⟩
  · intro i g L hL
    by_cases hi : i < m.objs.length
    · rw [jJoin_old hi] at hL
      have := hdom hL
      exact ⟨by simp; omega, by omega⟩
    · obtain ⟨b, rfl⟩ : ∃ b, i = m.objs.length + b := ⟨i - m.objs.length, by omega⟩
      rw [jJoin_new] at hL
      obtain ⟨h1, h2⟩ := hM1.dom _ _ _ hL
      exact ⟨by simp; omega, h2⟩
  · intro i i' o o' L L' hi hi' hL hL' hm hm' he
    rcases hat hi with ⟨h1, h2⟩ | ⟨b, l, rfl, hl, rfl, h2⟩ <;> rcases hat hi' with ⟨h1', h2'⟩ | ⟨b', l', rfl, hl', rfl, h2'⟩
    · rw [jJoin_old h1] at hL
      rw [jJoin_old h1'] at hL'
      exact hM.sep i i' o o' L L' h2 h2' hL hL' hm hm' he
    · rw [jJoin_old h1] at hL
      rw [jJoin_new] at hL'
      have := hfresh hL'
      have := (hdom hL).2
      omega
    · rw [jJoin_new] at hL
      rw [jJoin_old h1'] at hL'
      have := hfresh hL
      have := (hdom hL').2
      omega
    · rw [jJoin_new] at hL
      rw [jJoin_new] at hL'
      have := hM1.sep _ _ _ _ L L' h2 h2' hL hL' hm hm' he
      omega
  · rw [hk c (Nat.lt_of_lt_of_le hc hM.n0le)]
    exact hM.old c hc
  · have := hM.gle
    simp only [List.length_append]
    omega
  · intro i o g L hi hL
    rcases hat hi with ⟨h1, h2⟩ | ⟨b, l, rfl, hl, rfl, h2⟩
    · rw [jJoin_old h1] at hL
      exact hM.gens i o g L h2 hL
    · rw [jJoin_new] at hL
      exact hM1.gens _ _ g L h2 hL
  · intro gd hgd
    refine ⟨(hM.low gd hgd).1, fun i o L hi ho hL => ?_⟩
    have h1 : i < m.objs.length := by have := (hM.low gd hgd).1; have := hM.gle; omega
    rcases hat ho with ⟨-, h2⟩ | ⟨b, l, rfl, -⟩
    · rw [jJoin_old h1] at hL
      exact (hM.low gd hgd).2 i o L hi h2 hL
    · omega
  · simp
  · intro i hi hn
    refine ⟨by rw [List.getElem?_append_left hi], fun g => ?_⟩
    rw [jJoin_old hi]
    exact hn g
  · intro i g L hL
    by_cases hi : i < m.objs.length
    · rw [jJoin_old hi] at hL
      exact .inl hL
    · obtain ⟨b, rfl⟩ : ∃ b, i = m.objs.length + b := ⟨i - m.objs.length, by omega⟩
      rw [jJoin_new] at hL
      exact .inr (.inl (hfresh hL))
end Go.Ig
