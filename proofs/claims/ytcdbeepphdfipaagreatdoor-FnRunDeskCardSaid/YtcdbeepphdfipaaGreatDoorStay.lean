/- append leaves the cells that are the slice's as they were. -/
import Derived.Test.YtcdbeepphdfipaaGreatDoorGenB
namespace Go.Proofs.YtcdbeepphdfipaaGreatDoor
open Go.RowKit
set_option linter.unusedVariables false

/-- append leaves the cells that are the slice's as they were. -/
theorem run_app_stay {P : Program} (w : World) {t ty e : TypeId} {z : Value} (T : OneTy P t e z) {v : Value} {xs : List Value} (hv : Own w e v xs)
    (so : Option Addr) (m c : Nat) (news : List Value) (hl : news.length = m) (hnil : so = none → m = 0 ∧ c = 0)
    (hnews : ∀ ad, so = some ad → ∀ j u, news[j]? = some u → w.cell? (ad.add j) = some u) (h1 : ∀ u ∈ news, u.oneCell' = true) (hb : xs.length + m ≤ 1099511627776)
    {v' : Value} {w' : World} (hrun : (Builtin.append_ #[t, t] ty #[v, .slice so m c]).run P w = .ok v' w') : Own w' e v xs := by
  obtain ⟨i, ht, hi, hz, hs, hby, hzc⟩ := T
  have hbig : (xs.length + m) * i.bytes ≤ 140737488355328 := by
    have := Nat.mul_le_mul hb hby; omega
  cases so with
  | none =>
    obtain ⟨rfl, rfl⟩ := hnil rfl
    have hw : w = w' := by
      rcases hv with ⟨rfl, rfl⟩ | ⟨g, cap, cur, rfl, _, hle, _⟩
      · simp [Builtin.append_, run_underlying ht, sizeOf, typeInfo, hi, Builtin.lenOf, Builtin.firstCells] at hrun
        exact hrun.2
      · simp [Builtin.append_, run_underlying ht, sizeOf, typeInfo, hi, Builtin.lenOf, Builtin.firstCells, loadCells, storeCells, hle] at hrun
        exact hrun.2
    rw [← hw]; exact hv
  | some a =>
  have hnews' := hnews a rfl
  rcases hv with ⟨rfl, rfl⟩ | ⟨g, cap, cur, rfl, hg, hnc, hcm, hcs, htake⟩
  · exact Own.nil _ _
  · by_cases hroom : xs.length + m ≤ cap
    · have hr := run_append_room (P := P) w t ty e i ht hi g xs.length cap cur hg a m c news (by rw [hs]; omega) hnews' h1 hroom (by rw [hs, hl]; omega)
      rw [hr] at hrun
      obtain ⟨-, rfl⟩ := Result.ok.inj hrun
      refine .inr ⟨g, cap, _, rfl, setRow_heap w g cur _ e _ hg, hnc, hcm, ?_, ?_⟩
      · simp only [List.size_toArray, List.length_append, List.length_take, List.length_drop, Array.length_toList, hs, hl]
        omega
      · rw [hs, Nat.mul_one, htake]
        simp
    · have holds : ∀ j u, xs[j]? = some u → w.cell? ((⟨g, 0, none⟩ : Addr).add j) = some u := by
        intro j u hu
        have hj : j < xs.length := (List.getElem?_eq_some_iff.1 hu).1
        rw [Addr.add_lit, Nat.zero_add, cell_of_heap hg, take_get htake hj, gv_lt hj]
        rw [List.getElem?_eq_getElem hj] at hu; exact hu
      have hr := run_append_grow (P := P) w t ty e i z ht hi hz ⟨g, 0, none⟩ xs.length cap xs (by rw [hs]; omega) holds a m c news (by rw [hs]; omega) hnews' (by omega) (by omega) (growslice_fits (by omega) hbig)
      rw [hr] at hrun
      obtain ⟨-, rfl⟩ := Result.ok.inj hrun
      exact (show Own w e (.slice (some ⟨g, 0, none⟩) xs.length cap) xs from .inr ⟨g, cap, cur, rfl, hg, hnc, hcm, hcs, htake⟩).new ((New.drew _).trans (New.alloc _ _))

/-- As step_app; the slice's own cells stay besides. -/
theorem step_app2 {P : Program} {ops : Array Oper} {o : Oper} {a : Act} {w : World} {K : Act → World → Prop} {Q : Exit → Act → World → Prop} {E : Prop} (hgd : o.guard = none) (s x : Operand) (t : TypeId)
    (ho : o.op = .call { callee := .builtin .append, args := #[s, x], argTypes := #[t, t] })
    {e : TypeId} {z : Value} (T : OneTy P t e z) {v : Value} {xs : List Value} (hv : Own w e v xs) (hs : a.eval s = v)
    (so : Option Addr) (m c : Nat) (news : List Value) (hx : a.eval x = .slice so m c) (hl : news.length = m) (hnil : so = none → m = 0 ∧ c = 0)
    (hnews : ∀ ad, so = some ad → ∀ j u, news[j]? = some u → w.cell? (ad.add j) = some u) (h1 : ∀ u ∈ news, u.oneCell' = true) (hb : xs.length + m ≤ 1099511627776)
    (h : ∀ v' w', Own w' e v' (xs ++ news) → Chg (fun k => v.ownBlock = some k) w w' → (∀ g, v'.ownBlock = some g → v.ownBlock = some g ∨ w.heap.size ≤ g) → Own w' e v xs → K (a.put o.dst v') w') :
    if Region.wanted o (yielded ops a.tmps) = true then Oper.wp P o a w K Q else E := by
  have hw : Region.wanted o (yielded ops a.tmps) = true := by simp [Region.wanted, hgd]
  rw [if_pos hw]
  obtain ⟨v', w', hr, h2, h3, h4⟩ := run_app (P := P) w (ty := o.type) T hv so m c news hl hnil hnews h1 hb
  have h5 := run_app_stay (P := P) w T hv so m c news hl hnil hnews h1 hb hr
  unfold Oper.wp execOp
  simp only [ho, resolve, invoke, builtin, Sem.run_bind, Sem.run_pure, Result.andThen_ok, List.map_toArray, List.map_cons, List.map_nil, hs, hx, hr]
  exact h v' w' h2 h3 h4 h5
end Go.Proofs.YtcdbeepphdfipaaGreatDoor
