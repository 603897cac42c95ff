/-
  What a flush does to the firm sectors: in whatever order the loose ones are gone through.
-/
import Derived.Test.YtcnjllnnhcafbaaDoorIgSym
set_option linter.unusedVariables false
namespace Go.Ig
open Go

/-- A map of sectors: each entry's number, bytes, stamp. -/
def decE : List (V × V × Nat) → Option (List (Nat × List UInt8 × Nat))
  | [] => some []
  | (k, v, q) :: r => match k, v with
    | .int .i64 i, .agg cs => match toU8 cs, decE r with
      | some us, some l => if 0 ≤ i ∧ us.length = 64 then some ((i.toNat, us, q) :: l) else none
      | _, _ => none
    | _, _ => none
def okE (n clock : Nat) (l : List (Nat × List UInt8 × Nat)) : Bool := (l.all fun e => decide (e.1 < n) && decide (e.2.2 < clock)) && decide ((l.map (·.1)).Nodup) && decide ((l.map (·.2.2)).Nodup)
/-- All sectors laid over. -/
def overlay (l : List UInt8) (ds : List (Nat × List UInt8 × Nat)) : List UInt8 := ds.foldl (fun l d => splice l (d.1 * 64) d.2.1) l
/-- A byte, where sectors are laid over. -/
def byteOver (l : List UInt8) (ds : List (Nat × List UInt8 × Nat)) (p : Nat) : Option UInt8 :=
  match ds.find? (fun d => d.1 == p / 64) with
  | some d => d.2.1[p % 64]?
  | none => l[p]?

theorem toU8_some : ∀ {cs : List V} {us : List UInt8}, toU8 cs = some us → cs = us.map V.u8
  | [], us, h => by simp [toU8] at h; subst h; rfl
  | c :: r, us, h => by
    cases c <;> simp [toU8] at h
    obtain ⟨us', h1, rfl⟩ := h
    simp [toU8_some h1]
theorem decE_mem : ∀ {es : List (V × V × Nat)} {ds : List (Nat × List UInt8 × Nat)}, decE es = some ds → ∀ {k v : V} {q : Nat}, (k, v, q) ∈ es → ∃ (i : Nat) (us : List UInt8), k = .int .i64 (i : Int) ∧ v = .agg (us.map V.u8) ∧ us.length = 64 ∧ (i, us, q) ∈ ds
  | [], ds, h, k, v, q, hm => by cases hm
  | (k0, v0, q0) :: r, ds, h, k, v, q, hm => by
    simp only [decE] at h
    split at h
    · rename_i i cs
      split at h
      · rename_i us l hus hl
        split at h
        · rename_i hc
          cases h
          rcases List.mem_cons.1 hm with hm | hm
          · cases hm
            refine ⟨i.toNat, us, by rw [Int.toNat_of_nonneg hc.1], by rw [toU8_some hus], hc.2, by simp⟩
          · obtain ⟨i', us', h1, h2, h3, h4⟩ := decE_mem hl hm
            exact ⟨i', us', h1, h2, h3, by simp [h4]⟩
        · cases h
      · cases h
    · cases h
theorem decE_stamps : ∀ {es : List (V × V × Nat)} {ds : List (Nat × List UInt8 × Nat)}, decE es = some ds → ds.map (·.2.2) = es.map (·.2.2) ∧ ds.length = es.length
  | [], ds, h => by simp [decE] at h; subst h; exact ⟨rfl, rfl⟩
  | (k0, v0, q0) :: r, ds, h => by
    simp only [decE] at h
    split at h
    · split at h
      · rename_i us l hus hl
        split at h
        · cases h
          obtain ⟨h1, h2⟩ := decE_stamps hl
          exact ⟨by simp [h1], by simp [h2]⟩
        · cases h
      · cases h
    · cases h
theorem decE_len : ∀ {es : List (V × V × Nat)} {ds : List (Nat × List UInt8 × Nat)}, decE es = some ds → ∀ d ∈ ds, d.2.1.length = 64
  | [], ds, h, d, hd => by simp [decE] at h; subst h; cases hd
  | (k0, v0, q0) :: r, ds, h, d, hd => by
    simp only [decE] at h
    split at h
    · split at h
      · rename_i us l hus hl
        split at h
        · rename_i hc
          cases h
          rcases List.mem_cons.1 hd with rfl | hd
          · exact hc.2
          · exact decE_len hl d hd
        · cases h
      · cases h
    · cases h

theorem splB_length {l us : List UInt8} {o : Nat} (h : o + us.length ≤ l.length) : (splice l o us).length = l.length := by
  simp [splice]; omega
theorem splB_get {l us : List UInt8} {o p : Nat} (h : o + us.length ≤ l.length) : (splice l o us)[p]? = if o ≤ p ∧ p < o + us.length then us[p - o]? else l[p]? := by
  unfold splice
  rw [List.append_assoc, List.getElem?_append]
  have hl : (l.take o).length = o := by simp; omega
  rw [hl]
  split
  · rename_i h1
    rw [if_neg (by omega), List.getElem?_take, if_pos h1]
  · rename_i h1
    rw [List.getElem?_append]
    split
    · rename_i h2
      rw [if_pos (by omega)]
    · rename_i h2
      rw [if_neg (by omega), List.getElem?_drop]
      congr 1
      omega

theorem overlay_length (n : Nat) : ∀ (ds : List (Nat × List UInt8 × Nat)) (l : List UInt8), l.length = n * 64 → (∀ d ∈ ds, d.1 < n ∧ d.2.1.length = 64) → (overlay l ds).length = l.length
  | [], l, _, _ => rfl
  | d :: r, l, hl, h => by
    have hd := h d (by simp)
    have h1 : (splice l (d.1 * 64) d.2.1).length = l.length := splB_length (by rw [hd.2, hl]; have := hd.1; omega)
    show (overlay (splice l (d.1 * 64) d.2.1) r).length = l.length
    rw [overlay_length n r _ (h1.trans hl) (fun x hx => h x (by simp [hx])), h1]
theorem overlay_get (n : Nat) : ∀ (ds : List (Nat × List UInt8 × Nat)) (l : List UInt8), l.length = n * 64 → (∀ d ∈ ds, d.1 < n ∧ d.2.1.length = 64) → (ds.map (·.1)).Nodup → ∀ p, (overlay l ds)[p]? = byteOver l ds p
  | [], l, _, _, _, p => rfl
  | d :: r, l, hl, h, hnd, p => by
    have hd := h d (by simp)
    have hfit : d.1 * 64 + d.2.1.length ≤ l.length := by rw [hd.2, hl]; have := hd.1; omega
    have h1 : (splice l (d.1 * 64) d.2.1).length = l.length := splB_length hfit
    simp only [List.map_cons, List.nodup_cons] at hnd
    show (overlay (splice l (d.1 * 64) d.2.1) r)[p]? = _
    rw [overlay_get n r _ (h1.trans hl) (fun x hx => h x (by simp [hx])) hnd.2 p]
    unfold byteOver
    rw [List.find?_cons]
    by_cases hp : d.1 = p / 64
    · have : r.find? (fun d => d.1 == p / 64) = none := by
        rw [List.find?_eq_none]
        intro x hx hxp
        have : x.1 = d.1 := by rw [hp]; simpa using hxp
        exact hnd.1 (by rw [← this]; exact List.mem_map_of_mem hx)
      rw [this]
      simp only [hp, beq_self_eq_true]
      rw [← hp, splB_get hfit, if_pos (by rw [hd.2]; omega)]
      congr 1
      omega
    · have hb : (d.1 == p / 64) = false := by simpa using hp
      simp only [hb]
      cases r.find? (fun d => d.1 == p / 64) with
      | some x => rfl
      | none =>
        simp only
        rw [splB_get hfit, if_neg (by rw [hd.2]; omega)]
theorem find_congr {α : Type} {p q : α → Bool} : ∀ {l : List α}, (∀ x ∈ l, p x = q x) → l.find? p = l.find? q
  | [], _ => rfl
  | a :: r, h => by
    rw [List.find?_cons, List.find?_cons, h a (by simp), find_congr fun x hx => h x (by simp [hx])]
/-- One sector more. -/
theorem over_step {n : Nat} {ds : List (Nat × List UInt8 × Nat)} {l B : List UInt8} {seen : List Nat} (hl : l.length = n * 64) (hlen : B.length = l.length) (hds : ∀ d ∈ ds, d.1 < n ∧ d.2.1.length = 64) (hk : (ds.map (·.1)).Nodup)
    {i q : Nat} {us : List UInt8} (hin : (i, us, q) ∈ ds) (hB : ∀ p, B[p]? = byteOver l (ds.filter fun d => seen.contains d.2.2) p) (hq : (ds.map (·.2.2)).Nodup) (p : Nat) :
    (splice B (i * 64) us)[p]? = byteOver l (ds.filter fun d => (seen ++ [q]).contains d.2.2) p := by
  have hd := hds _ hin
  simp only at hd
  have hfit : i * 64 + us.length ≤ B.length := by rw [hd.2, hlen, hl]; have := hd.1; omega
  rw [splB_get hfit, hd.2, hB]
  -- the entry that is found
  have uniq : ∀ {x y : Nat × List UInt8 × Nat}, x ∈ ds → y ∈ ds → x.1 = y.1 → x = y := by
    intro x y hx hy he
    have : ∀ (l : List (Nat × List UInt8 × Nat)), (l.map (·.1)).Nodup → x ∈ l → y ∈ l → x = y := by
      intro l
      induction l with
      | nil => intro _ h; cases h
      | cons a r ih =>
        intro hn hx hy
        simp only [List.map_cons, List.nodup_cons] at hn
        rcases List.mem_cons.1 hx with hx' | hx' <;> rcases List.mem_cons.1 hy with hy' | hy'
        · exact hx'.trans hy'.symm
        · subst hx'; exact absurd (by rw [he]; exact List.mem_map_of_mem hy') hn.1
        · subst hy'; exact absurd (by rw [← he]; exact List.mem_map_of_mem hx') hn.1
        · exact ih hn.2 hx' hy'
    exact this ds hk hx hy
  unfold byteOver
  by_cases hp : p / 64 = i
  · rw [if_pos (by omega)]
    have : (ds.filter fun d => (seen ++ [q]).contains d.2.2).find? (fun d => d.1 == p / 64) = some (i, us, q) := by
      cases hf : (ds.filter fun d => (seen ++ [q]).contains d.2.2).find? (fun d => d.1 == p / 64) with
      | none =>
        rw [List.find?_eq_none] at hf
        exact absurd (by simp [hp]) (hf (i, us, q) (List.mem_filter.2 ⟨hin, by simp⟩))
      | some x =>
        have h1 := List.find?_some hf
        have h2 := (List.mem_filter.1 (List.mem_of_find?_eq_some hf)).1
        rw [uniq h2 hin (by rw [← hp]; simpa using h1)]
    rw [this]
    simp only
    congr 1
    omega
  · rw [if_neg (by omega)]
    have : (ds.filter fun d => (seen ++ [q]).contains d.2.2).find? (fun d => d.1 == p / 64) = (ds.filter fun d => seen.contains d.2.2).find? (fun d => d.1 == p / 64) := by
      rw [List.find?_filter, List.find?_filter]
      apply find_congr
      intro x hx
      by_cases hxq : x.2.2 = q
      · have hxi : x = (i, us, q) := by
          have : ∀ (l : List (Nat × List UInt8 × Nat)), (l.map (·.2.2)).Nodup → x ∈ l → (i, us, q) ∈ l → x = (i, us, q) := by
            intro l
            induction l with
            | nil => intro _ h; cases h
            | cons a r ih =>
              intro hn hx hy
              simp only [List.map_cons, List.nodup_cons] at hn
              rcases List.mem_cons.1 hx with hx' | hx' <;> rcases List.mem_cons.1 hy with hy' | hy'
              · exact hx'.trans hy'.symm
              · subst hx'; exact absurd (by rw [hxq]; exact List.mem_map_of_mem (f := fun x : Nat × List UInt8 × Nat => x.2.2) hy') hn.1
              · subst hy'; exact absurd (by have := List.mem_map_of_mem (f := fun x : Nat × List UInt8 × Nat => x.2.2) hx'; rw [hxq] at this; exact this) hn.1
              · exact ih hn.2 hx' hy'
          exact this ds hq hx hin
        subst hxi
        have : (i == p / 64) = false := by simpa using fun h => hp h.symm
        simp [this]
      · simp [hxq]
    rw [this]
theorem over_all {n : Nat} {ds : List (Nat × List UInt8 × Nat)} {l B : List UInt8} {seen : List Nat} (hl : l.length = n * 64) (hds : ∀ d ∈ ds, d.1 < n ∧ d.2.1.length = 64) (hk : (ds.map (·.1)).Nodup)
    (hB : ∀ p, B[p]? = byteOver l (ds.filter fun d => seen.contains d.2.2) p) (hall : ∀ d ∈ ds, d.2.2 ∈ seen) : B = overlay l ds := by
  apply List.ext_getElem?
  intro p
  rw [hB, overlay_get n ds l hl hds hk]
  have : (ds.filter fun d => seen.contains d.2.2) = ds := List.filter_eq_self.2 fun d hd => by simpa using hall d hd
  rw [this]
end Go.Ig
