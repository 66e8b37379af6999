/-
  A contract over fewer listed variables serves where more are listed; a world that holds the listed variables.
-/
import Derived.Test.YtnfbjfbndnmhmaaSxQ
namespace Sx
open Go Go.RowKit

def Sub (G G' : Nat → AV) : Prop := ∀ g, G g = .junk ∨ G g = G' g

theorem GlobOK.sub {G G' : Nat → AV} (hs : Sub G G') {w : World} (h : GlobOK G' w) : GlobOK G w := by
  intro g
  rcases hs g with e | e
  · rw [e]; trivial
  · rw [e]; exact h g

theorem Sound.sub {P : Program} {G G' : Nat → AV} {f : FuncId} {c : Contract} (h : Sound P G f c) (hs : Sub G G') : Sound P G' f c :=
  fun vs cs r hc hcs hwf w hG args ha => h vs cs r hc hcs hwf w (GlobOK.sub hs hG) args ha

def subChk (a b : GL) : Bool := a.all fun x => b.find? (fun y => y.1 == x.1) == some x

theorem lookGL_find : ∀ (l : GL) (g : Nat), lookGL l g = match l.find? (fun y => y.1 == g) with | some x => globAV x.2.1 x.2.2 | none => .junk
  | [], _ => rfl
  | (u, k, zs) :: l, g => by
    simp only [lookGL, List.find?_cons]
    by_cases h : g = u
    · subst h; simp
    · rw [if_neg h, lookGL_find l g]
      have : (u == g) = false := by simpa using fun e : u = g => h e.symm
      simp [this]

theorem sub_of {a b : GL} (h : subChk a b = true) : Sub (lookGL a) (lookGL b) := by
  intro g
  rw [lookGL_find, lookGL_find]
  cases hf : a.find? (fun y => y.1 == g) with
  | none => exact .inl rfl
  | some x =>
    right
    simp only [subChk, List.all_eq_true] at h
    have h1 := h x (List.mem_of_find?_eq_some hf)
    have h2 : (x.1 == g) = true := by have := List.find?_some hf; simpa using this
    have h3 : x.1 = g := by simpa using h2
    rw [h3] at h1
    have h4 : b.find? (fun y => y.1 == g) = some x := by simpa using h1
    rw [h4]

/-- The heap of a start, with the listed variables laid. -/
def laidHeap (l : GL) (h : Array Obj) : Array Obj := l.foldl (fun h x => h.modify x.1 fun | .cells _ t z => .cells (x.2.2.map fun z => Value.int x.2.1 z).toArray t z | o => o) h
end Sx
