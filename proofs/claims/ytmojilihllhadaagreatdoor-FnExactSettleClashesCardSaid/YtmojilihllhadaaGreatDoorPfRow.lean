/- Loops over rows: what they gather, and what they find. -/
import Derived.Test.YtmojilihllhadaaGreatDoorPfBase
set_option linter.unusedVariables false
set_option linter.unusedSimpArgs false
namespace Go.Proofs.YtmojilihllhadaaGreatDoor.Ev
open Go

/-- a loop that gathers -/
theorem row_flat {t : Ty} {β γ : Type} {L : Int → List β → Option γ} {l : List t.den} {g : t.den → List β} (hg : ∀ x, (g x).length ≤ 1)
    (hs : ∀ (i : Nat) (hi : i < l.length) (m : List β), m.length ≤ i → L i m = L ((i + 1 : Nat) : Int) (m ++ g l[i])) :
    ∀ (k i : Nat) (m : List β), i + k = l.length → m.length ≤ i → L i m = L (l.length : Int) (m ++ (l.drop i).flatMap g)
  | 0, i, m, h, hm => by
    have hi : i = l.length := by omega
    subst hi
    rw [List.drop_length]; simp
  | k + 1, i, m, h, hm => by
    have hi : i < l.length := by omega
    have h1 := hg l[i]
    rw [hs i hi m hm, row_flat hg hs k (i + 1) (m ++ g l[i]) (by omega) (by rw [List.length_append]; omega), List.drop_eq_getElem_cons hi, List.flatMap_cons, List.append_assoc]
theorem row_flat0 {t : Ty} {β γ : Type} {L : Int → List β → Option γ} {l : List t.den} {g : t.den → List β} (hg : ∀ x, (g x).length ≤ 1)
    (hs : ∀ (i : Nat) (hi : i < l.length) (m : List β), m.length ≤ i → L i m = L ((i + 1 : Nat) : Int) (m ++ g l[i])) : L 0 [] = L (l.length : Int) (l.flatMap g) := by
  have := row_flat hg hs l.length 0 [] (by omega) (by simp)
  simpa using this
/-- a loop that finds -/
theorem row_first {t : Ty} {β : Type} {L : Int → Option β} {q : t.den → Bool} {r : t.den → β} {d : β} {l : List t.den}
    (h0 : L (l.length : Int) = some d) (h1 : ∀ (i : Nat) (hi : i < l.length), q l[i] = true → L i = some (r l[i])) (h2 : ∀ (i : Nat) (hi : i < l.length), q l[i] = false → L i = L ((i + 1 : Nat) : Int)) :
    ∀ (k i : Nat), i + k = l.length → L i = some (((l.drop i).find? q).elim d r)
  | 0, i, h => by
    have hi : i = l.length := by omega
    subst hi
    rw [h0, List.drop_length]; rfl
  | k + 1, i, h => by
    have hi : i < l.length := by omega
    rw [List.drop_eq_getElem_cons hi, List.find?_cons]
    cases hq : q l[i] with
    | true => rw [h1 i hi hq]; rfl
    | false => rw [h2 i hi hq]; exact row_first h0 h1 h2 k (i + 1) (by omega)
theorem row_first0 {t : Ty} {β : Type} {L : Int → Option β} {q : t.den → Bool} {r : t.den → β} {d : β} {l : List t.den}
    (h0 : L (l.length : Int) = some d) (h1 : ∀ (i : Nat) (hi : i < l.length), q l[i] = true → L i = some (r l[i])) (h2 : ∀ (i : Nat) (hi : i < l.length), q l[i] = false → L i = L ((i + 1 : Nat) : Int)) :
    L 0 = some ((l.find? q).elim d r) := by
  have := row_first h0 h1 h2 l.length 0 (by omega)
  simpa using this
theorem one_len {β : Type} {c : Bool} {x : β} : (bif c then [x] else []).length ≤ 1 := by cases c <;> simp
end Go.Proofs.YtmojilihllhadaaGreatDoor.Ev
