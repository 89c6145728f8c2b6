/- The texts of codes, in plain Lean. -/
import Derived.Test.YtcdbeepphdfipaaGreatDoorBase
import Derived.Lib.Join
import Derived.Lib.ItoaNum
namespace Go.Proofs.YtcdbeepphdfipaaGreatDoor
set_option linter.unusedVariables false

/-- A number's digit. -/
def digB (x : Int) : UInt8 := UInt8.ofNat (48 + x.toNat)
/-- A row's digits. -/
def rowT (r : List Int) : List UInt8 := r.map digB
/-- Rows, with a slash between two of them: of the first k. -/
def rowsTo (rows : List (List Int)) : Nat → List UInt8
  | 0 => []
  | k + 1 => rowsTo rows k ++ (if k = 0 then [] else [47]) ++ rowT (gr rows k)
/-- A code's text. -/
def codeT (p : Int) (rows : List (List Int)) : List UInt8 := digB p :: 58 :: rowsTo rows rows.length
/-- A text as the model has it. -/
def bs (l : List UInt8) : ByteArray := ⟨l.toArray⟩
theorem bs_append (a b : List UInt8) : bs a ++ bs b = bs (a ++ b) := by
  apply ByteArray.ext
  simp [bs, ByteArray.data_append]
theorem bs_size (a : List UInt8) : (bs a).size = a.length := by simp [bs, ByteArray.size]
theorem bs_list (a : List UInt8) : (bs a).data.toList = a := by simp [bs]

theorem dec_small : ∀ n : Nat, n < 10 → Lib.decDigits n = [digB n] := by
  intro n hn
  rw [Lib.decDigits, dif_pos hn]
  simp [digB]

theorem rowsTo_succ (r : List Int) (rows : List (List Int)) : ∀ k, k ≤ rows.length → rowsTo (r :: rows) (k + 1) = rowT r ++ Lib.joinTail [47] ((rows.map rowT).take k)
  | 0, _ => by simp [rowsTo, Lib.joinTail, gr]
  | k + 1, h => by
    have e : (rows.map rowT)[k]? = some (rowT (gr (r :: rows) (k + 1))) := by
      rw [List.getElem?_map, List.getElem?_eq_getElem (by omega)]
      simp [gr, List.getElem?_eq_getElem (show k < rows.length by omega)]
    rw [Lib.joinTail_take_succ _ _ _ _ e, rowsTo, rowsTo_succ r rows k (by omega), if_neg (by omega)]
    simp [List.append_assoc]
theorem rowsTo_join (rows : List (List Int)) : Lib.join (rows.map rowT) [47] = rowsTo rows rows.length := by
  cases rows with
  | nil => rfl
  | cons r rows => rw [List.map_cons, Lib.join_cons, List.length_cons, rowsTo_succ _ _ _ (Nat.le_refl _), ← List.length_map (f := rowT), List.take_length]
theorem rowT_take {r : List Int} {k : Nat} (h : k < r.length) : rowT (r.take (k + 1)) = rowT (r.take k) ++ [digB (gi r k)] := by
  show List.map digB (r.take (k + 1)) = List.map digB (r.take k) ++ [digB (gi r k)]
  rw [List.take_add_one, List.map_append, List.getElem?_eq_getElem h, gi_lt h]
  rfl
theorem rowT_all (r : List Int) : rowT (r.take r.length) = rowT r := by rw [List.take_length]
end Go.Proofs.YtcdbeepphdfipaaGreatDoor
