import Derived.Test.YtmckcjoacfekcaaAm31
/-! The calculus, thirty-second part: encoders of plain elements. -/
namespace Go.Proofs.Ytmckcjoacfekcaa.AM
open Go
def iL (n : Int) : List (L Unit) := [.int .i64 n]
instance : EncB iL := ⟨fun _ => rfl⟩
def iK (k : IntKind) (n : Int) : List (L Unit) := [.int k n]
instance (k : IntKind) : EncB (iK k) := ⟨fun _ => rfl⟩
def bL (b : Bool) : List (L Unit) := [.bool b]
instance : EncB bL := ⟨fun _ => rfl⟩
def sL (s : List UInt8) : List (L Unit) := [.str (bts s)]
instance : EncB sL := ⟨fun _ => rfl⟩
def sl (o : Bool) (n : Nat) (rows : List (List (L Unit))) : L Unit := match o with | true => .os () n rows | false => .bs () n rows
def lL {α : Type} (o : Bool) (n : Nat) (enc : α → List (L Unit)) (xs : List α) : List (L Unit) := [sl o n (List.map enc xs)]
instance {α : Type} (n : Nat) (enc : α → List (L Unit)) : EncB (lL false n enc) := ⟨fun _ => rfl⟩
instance {α : Type} (o : Bool) (n : Nat) (enc : α → List (L Unit)) : EncO (lL o n enc) := ⟨fun _ => by cases o <;> rfl⟩
/-- An element's cells hold nothing that is only read. -/
class EncF {α : Type} (enc : α → List (L Unit)) : Prop where
  h : ∀ x, immFreeC (enc x) = true
theorem immF_map {α : Type} {enc : α → List (L Unit)} [EncF enc] : ∀ xs : List α, immFreeR (List.map enc xs) = true
  | [] => rfl
  | x :: xs => by simp only [List.map_cons, immFreeR, EncF.h (enc := enc) x, immF_map xs, Bool.and_self]
instance : EncF iL := ⟨fun _ => rfl⟩
instance (k : IntKind) : EncF (iK k) := ⟨fun _ => rfl⟩
instance : EncF bL := ⟨fun _ => rfl⟩
instance : EncF sL := ⟨fun _ => rfl⟩
instance {α : Type} (n : Nat) (enc : α → List (L Unit)) [EncF enc] : EncF (lL true n enc) := ⟨fun _ => by simp only [lL, sl, immFreeC, immFreeL, immF_map, Bool.and_self]⟩
end Go.Proofs.Ytmckcjoacfekcaa.AM
