/- What the desk answers to a line, in plain Lean. impl.numbers: the numbers of a text's bytes. Maps from texts to functions, that a call makes. -/
import Derived.Test.YtcdbeepphdfipaaGreatDoorPrsP
import Derived.Test.YtcdbeepphdfipaaGreatDoorWtsN
import Derived.Test.YtcdbeepphdfipaaGreatDoorIsBest
import Derived.Test.YtcdbeepphdfipaaGreatDoorPlainOf
import Derived.Test.YtcdbeepphdfipaaGreatDoorEnco
import Derived.Test.YtcdbeepphdfipaaGreatDoorMendS
import Derived.Test.YtcdbeepphdfipaaGreatDoorSeqG
import Derived.Test.YtcdbeepphdfipaaGreatDoorBase
import Derived.Maps.RangeWalk
import Derived.StringKeys
namespace Go.Proofs.YtcdbeepphdfipaaGreatDoor
set_option linter.unusedVariables false

def cDist : List UInt8 := [100, 105, 115, 116, 97, 110, 99, 101]
def cBest : List UInt8 := [98, 101, 115, 116]
def cPlain : List UInt8 := [112, 108, 97, 105, 110]
def cSend : List UInt8 := [115, 101, 110, 100]
def cMend : List UInt8 := [109, 101, 110, 100]
def cYes : List UInt8 := [121, 101, 115]
def cNo : List UInt8 := [110, 111]
def cWhat : List UInt8 := [119, 104, 97, 116]
def cWrong : List UInt8 := [119, 114, 111, 110, 103]
def cLost : List UInt8 := [108, 111, 115, 116]

/-- The program's number of a byte. -/
def nDig (b : UInt8) : Int := if b.toNat = 46 then -1 else if 48 ≤ b.toNat ∧ b.toNat ≤ 57 then (b.toNat : Int) - 48 else 255
def nUn (l : List UInt8) : List Int := l.map nDig

theorem nDig_same {b : UInt8} (h : -1 ≤ sDig b) : nDig b = sDig b := by
  unfold sDig at h ⊢
  unfold nDig
  by_cases c : 48 ≤ b.toNat ∧ b.toNat ≤ 57
  · rw [if_pos c, if_neg (by omega), if_pos c]
  · rw [if_neg c] at h ⊢
    by_cases d : b.toNat = 46
    · rw [if_neg c, if_pos d, if_pos d]
    · rw [if_neg d] at h; omega
theorem sDig_same {b : UInt8} (h : nDig b ≤ 9) : nDig b = sDig b := by
  unfold nDig at h ⊢
  unfold sDig
  by_cases d : b.toNat = 46
  · rw [if_pos d, if_neg (by omega), if_pos d]
  · rw [if_neg d] at h ⊢
    by_cases c : 48 ≤ b.toNat ∧ b.toNat ≤ 57
    · rw [if_pos c, if_pos c]
    · rw [if_neg c] at h; omega
theorem gi_map {f : UInt8 → Int} {u : List UInt8} {i : Nat} (h : i < u.length) : gi (u.map f) i = f u[i] := by
  rw [gi_lt (by rw [List.length_map]; exact h), List.getElem_map]
theorem nUn_of_s {u : List UInt8} (h : ∀ i, i < (sUn u).length → -1 ≤ gi (sUn u) i) : nUn u = sUn u := by
  unfold nUn sUn at *
  refine List.map_congr_left (fun b hb => nDig_same ?_)
  obtain ⟨i, hi, rfl⟩ := List.getElem_of_mem hb
  have := h i (by rw [List.length_map]; exact hi)
  rwa [gi_map hi] at this
theorem nUn_of_n {u : List UInt8} (h : ∀ i, i < (nUn u).length → gi (nUn u) i ≤ 9) : nUn u = sUn u := by
  unfold nUn sUn at *
  refine List.map_congr_left (fun b hb => sDig_same ?_)
  obtain ⟨i, hi, rfl⟩ := List.getElem_of_mem hb
  have := h i (by rw [List.length_map]; exact hi)
  rwa [gi_map hi] at this

theorem MsgC.same {p : Int} {rows : List (List Int)} {u : List UInt8} : (MsgC p rows (nUn u) → nUn u = sUn u) ∧ (MsgC p rows (sUn u) → nUn u = sUn u) := by
  refine ⟨fun h => nUn_of_n (fun i hi => ?_), fun h => nUn_of_s (fun i hi => ?_)⟩
  · have := hasB_iff.1 h.2.2 i hi
    have := h.1.prime
    omega
  · have := hasB_iff.1 h.2.2 i hi
    omega
theorem LostC.same {p : Int} {rows : List (List Int)} {u : List UInt8} : (LostC p rows (nUn u) → nUn u = sUn u) ∧ (LostC p rows (sUn u) → nUn u = sUn u) := by
  refine ⟨fun h => nUn_of_n (fun i hi => ?_), fun h => nUn_of_s (fun i hi => ?_)⟩
  · have := h.2.2 i hi
    have := h.1.prime
    omega
  · exact (h.2.2 i hi).1

/-- The answer to a question of one code. -/
def OneR (c : List UInt8) (p : Int) (rows : List (List Int)) (t : List UInt8) : Prop :=
  (c = cDist → ∃ d, DistR p rows d ∧ t = [digB d]) ∧ (c = cBest → (IsBestC p rows → t = cYes) ∧ (¬ IsBestC p rows → t = cNo)) ∧
    (c = cPlain → ∃ p' out, PlainQ p rows p' out ∧ TxtR p' out (bs t))
/-- The answer to a question of a code and a list. -/
def TwoR (c : List UInt8) (p : Int) (rows : List (List Int)) (xs : List Int) (t : List UInt8) : Prop :=
  (c = cSend → (MsgC p rows xs → t = rowT (encZ p (gr rows 0).length rows xs xs.length)) ∧ (¬ MsgC p rows xs → t = cWrong)) ∧
    (c = cMend → (¬ LostC p rows xs → t = cWrong) ∧ (LostC p rows xs → ∃ out ok, MendR p rows xs out ok ∧ (ok = true → t = rowT out) ∧ (ok = false → t = cLost)))

def IsOne (ws : List (List UInt8)) : Prop := ws.length = 2 ∧ (ws.getD 0 [] = cDist ∨ ws.getD 0 [] = cBest ∨ ws.getD 0 [] = cPlain)
def IsTwo (ws : List (List UInt8)) : Prop := ws.length = 3 ∧ (ws.getD 0 [] = cSend ∨ ws.getD 0 [] = cMend)
/-- The answer to the words of a line. -/
structure AnsW (ws : List (List UInt8)) (t : List UInt8) : Prop where
  none : ¬ IsOne ws → ¬ IsTwo ws → t = cWhat
  one : IsOne ws → ∃ p rows ok, ParseR (ws.getD 1 []) p rows ok ∧ (ok = false → t = cWrong) ∧ (ok = true → OneR (ws.getD 0 []) p rows t)
  two : IsTwo ws → ∃ p rows ok, ParseR (ws.getD 1 []) p rows ok ∧ (ok = false → t = cWrong) ∧ (ok = true → TwoR (ws.getD 0 []) p rows (sUn (ws.getD 2 [])) t)

theorem bs_inj {a b : List UInt8} (h : bs a = bs b) : a = b := by
  have := congrArg (fun b => b.data.toList) h
  simpa [bs_list] using this

theorem OneR.unique {c : List UInt8} {p : Int} {rows : List (List Int)} {a b : List UInt8} (hc : c = cDist ∨ c = cBest ∨ c = cPlain) (h : OneR c p rows a) (k : OneR c p rows b) : a = b := by
  rcases hc with hc | hc | hc
  · obtain ⟨d, h1, rfl⟩ := h.1 hc
    obtain ⟨e, k1, rfl⟩ := k.1 hc
    rw [h1.unique k1]
  · by_cases x : IsBestC p rows
    · rw [(h.2.1 hc).1 x, (k.2.1 hc).1 x]
    · rw [(h.2.1 hc).2 x, (k.2.1 hc).2 x]
  · obtain ⟨p1, o1, h1, h2⟩ := h.2.2 hc
    obtain ⟨p2, o2, k1, k2⟩ := k.2.2 hc
    obtain ⟨rfl, rfl⟩ := h1.unique k1
    exact bs_inj (h2.unique k2)
theorem TwoR.unique {c : List UInt8} {p : Int} {rows : List (List Int)} {xs : List Int} {a b : List UInt8} (hc : c = cSend ∨ c = cMend) (h : TwoR c p rows xs a) (k : TwoR c p rows xs b) : a = b := by
  rcases hc with hc | hc
  · by_cases x : MsgC p rows xs
    · rw [(h.1 hc).1 x, (k.1 hc).1 x]
    · rw [(h.1 hc).2 x, (k.1 hc).2 x]
  · by_cases x : LostC p rows xs
    · obtain ⟨o1, b1, h1, h2, h3⟩ := (h.2 hc).2 x
      obtain ⟨o2, b2, k1, k2, k3⟩ := (k.2 hc).2 x
      obtain ⟨rfl, rfl⟩ := h1.unique k1
      cases b1 with
      | true => rw [h2 rfl, k2 rfl]
      | false => rw [h3 rfl, k3 rfl]
    · rw [(h.2 hc).1 x, (k.2 hc).1 x]
theorem AnsW.unique {ws : List (List UInt8)} {a b : List UInt8} (h : AnsW ws a) (k : AnsW ws b) : a = b := by
  by_cases c1 : IsOne ws
  · obtain ⟨p, rows, ok, h1, h2, h3⟩ := h.one c1
    obtain ⟨q, R, ok', k1, k2, k3⟩ := k.one c1
    obtain ⟨rfl, rfl, rfl⟩ := h1.unique k1
    cases ok with
    | true => exact (h3 rfl).unique c1.2 (k3 rfl)
    | false => rw [h2 rfl, k2 rfl]
  · by_cases c2 : IsTwo ws
    · obtain ⟨p, rows, ok, h1, h2, h3⟩ := h.two c2
      obtain ⟨q, R, ok', k1, k2, k3⟩ := k.two c2
      obtain ⟨rfl, rfl, rfl⟩ := h1.unique k1
      cases ok with
      | true => exact (h3 rfl).unique c2.2 (k3 rfl)
      | false => rw [h2 rfl, k2 rfl]
    · rw [h.none c1 c2, k.none c1 c2]

theorem rowT_length (r : List Int) : (rowT r).length = r.length := by rw [rowT, List.length_map]
theorem codeT_short {p : Int} {rows : List (List Int)} (h : ValidC p rows) : (codeT p rows).length ≤ 50 := by
  obtain ⟨hp, hd, r1, r6, h7⟩ := h.digs
  have hle := rowsTo_le h7 rows.length (Nat.le_refl _)
  rw [codeT, List.length_cons, List.length_cons]
  omega
/-- An answer is short. -/
theorem AnsW.short {ws : List (List UInt8)} {t : List UInt8} (h : AnsW ws t) : t.length ≤ 60 := by
  by_cases c1 : IsOne ws
  · obtain ⟨p, rows, ok, h1, h2, h3⟩ := h.one c1
    cases ok with
    | false => rw [h2 rfl]; decide
    | true =>
      rcases c1.2 with hc | hc | hc
      · obtain ⟨d, _, rfl⟩ := (h3 rfl).1 hc
        simp
      · by_cases x : IsBestC p rows
        · rw [((h3 rfl).2.1 hc).1 x]; decide
        · rw [((h3 rfl).2.1 hc).2 x]; decide
      · obtain ⟨p', out, _, k⟩ := (h3 rfl).2.2 hc
        by_cases x : ValidC p' out
        · rw [bs_inj (k.1 x)]; exact Nat.le_trans (codeT_short x) (by omega)
        · rw [bs_inj (k.2 x)]; simp
  · by_cases c2 : IsTwo ws
    · obtain ⟨p, rows, ok, h1, h2, h3⟩ := h.two c2
      cases ok with
      | false => rw [h2 rfl]; decide
      | true =>
        have hv := (h1.1 rfl).1
        have hf := hv.few
        rcases c2.2 with hc | hc
        · by_cases x : MsgC p rows (sUn (ws.getD 2 []))
          · rw [((h3 rfl).1 hc).1 x, rowT_length, encZ_length]; omega
          · rw [((h3 rfl).1 hc).2 x]; decide
        · by_cases x : LostC p rows (sUn (ws.getD 2 []))
          · obtain ⟨out, ok, k1, k2, k3⟩ := ((h3 rfl).2 hc).2 x
            cases ok with
            | false => rw [k3 rfl]; decide
            | true =>
              rw [k2 rfl, rowT_length]
              by_cases y : LostC p rows (sUn (ws.getD 2 [])) ∧ cntOf p rows (sUn (ws.getD 2 [])) = 1
              · obtain ⟨_, t', _, _, rfl⟩ := k1.1 y
                rw [msg_length]; omega
              · rw [(k1.2 y).2]; simp
          · rw [((h3 rfl).2 hc).1 x]; decide
    · rw [h.none c1 c2]; decide

/-- What RunDesk returns: the answers, each with a newline. -/
def deskTo : List (List UInt8) → List UInt8
  | [] => []
  | a :: l => a ++ [10] ++ deskTo l
theorem deskTo_snoc : ∀ (l : List (List UInt8)) (a : List UInt8), deskTo (l ++ [a]) = deskTo l ++ a ++ [10]
  | [], a => by simp [deskTo]
  | x :: l, a => by simp [deskTo, deskTo_snoc l a]
/-- The answers to the first k lines. -/
def AnsL (lines : List (List UInt8)) (k : Nat) (an : List (List UInt8)) : Prop := an.length = k ∧ ∀ i, i < k → AnsW (splitB 32 (lines.getD i [])) (an.getD i [])
def DeskR (lines : List (List UInt8)) (t : List UInt8) : Prop :=
  (20 < lines.length → t = []) ∧ (lines.length ≤ 20 → ∃ an, AnsL lines lines.length an ∧ t = deskTo an)
theorem AnsL.unique {lines : List (List UInt8)} {k : Nat} {a b : List (List UInt8)} (h : AnsL lines k a) (g : AnsL lines k b) : a = b := by
  apply List.ext_getElem
  · rw [h.1, g.1]
  · intro i h1 h2
    have h3 := h.2 i (by rw [← h.1]; exact h1)
    have h4 := g.2 i (by rw [← h.1]; exact h1)
    rw [List.getD_eq_getElem?_getD (l := a), List.getElem?_eq_getElem h1] at h3
    rw [List.getD_eq_getElem?_getD (l := b), List.getElem?_eq_getElem h2] at h4
    exact h3.unique h4
theorem AnsL.succ {lines : List (List UInt8)} {k : Nat} {an : List (List UInt8)} {a : List UInt8} (h : AnsL lines k an) (ha : AnsW (splitB 32 (lines.getD k [])) a) : AnsL lines (k + 1) (an ++ [a]) := by
  refine ⟨by rw [List.length_append, h.1]; rfl, fun i hi => ?_⟩
  by_cases c : i < k
  · rw [List.getD_eq_getElem?_getD (l := an ++ [a]), List.getElem?_append_left (by rw [h.1]; exact c), ← List.getD_eq_getElem?_getD]
    exact h.2 i c
  · obtain rfl : i = k := by omega
    rw [List.getD_eq_getElem?_getD (l := an ++ [a]), List.getElem?_append_right (by rw [h.1]; exact Nat.le_refl _), h.1, Nat.sub_self]
    exact ha
theorem DeskR.unique {lines : List (List UInt8)} {a b : List UInt8} (h : DeskR lines a) (g : DeskR lines b) : a = b := by
  by_cases c : 20 < lines.length
  · rw [h.1 c, g.1 c]
  · obtain ⟨x, h1, rfl⟩ := h.2 (by omega)
    obtain ⟨y, g1, rfl⟩ := g.2 (by omega)
    rw [h1.unique g1]
theorem deskTo_le : ∀ (an : List (List UInt8)), (∀ a ∈ an, a.length ≤ 60) → (deskTo an).length ≤ 61 * an.length
  | [], _ => by simp [deskTo]
  | a :: l, h => by
    have h1 := deskTo_le l (fun x hx => h x (List.mem_cons_of_mem _ hx))
    have h2 := h a (List.mem_cons_self ..)
    simp only [deskTo, List.length_append, List.length_cons, List.length_nil]
    omega
theorem AnsL.short {lines : List (List UInt8)} {k : Nat} {an : List (List UInt8)} (h : AnsL lines k an) : (deskTo an).length ≤ 61 * k := by
  rw [← h.1]
  refine deskTo_le an (fun a ha => ?_)
  obtain ⟨i, hi, rfl⟩ := List.getElem_of_mem ha
  have h3 := h.2 i (by rw [← h.1]; exact hi)
  rw [List.getD_eq_getElem?_getD (l := an), List.getElem?_eq_getElem hi] at h3
  exact h3.short
end Go.Proofs.YtcdbeepphdfipaaGreatDoor

namespace Go.Proofs.YtcdbeepphdfipaaGreatDoor
open Go.RowKit
set_option linter.unusedVariables false

set_option maxRecDepth 100000 in
set_option maxHeartbeats 2000000 in
theorem implNumbers_any (P : List UInt8) (w : World) (hL : P.length ≤ 2000000) :
    Calls Tryz.prog 129 #[.string (bs P)] w fun e w' => ∃ v, e = .returned v ∧ Own w' 3 v ((nUn P).map (Value.int .i64)) ∧ From w.heap.size v ∧ New w w' := by
  obtain ⟨Z, hZ⟩ : ∃ Z, Z = bs P := ⟨_, rfl⟩
  have hzn : Z.size = P.length := by rw [hZ, bs_size]
  have hzb : Z.size ≤ 2000000 := by omega
  have HZ := Lib.hid hzn
  have HZE := Lib.hid hZ
  have HCV := Lib.hid (fun w => bytes_conv P w)
  rw [← hZ]
  clear hZ hzn hL
  go_enter Tryz.func129, Tryz.ntmps129
  go_wp2_with (at_make; refine wpList_mk rfl _ _ _ rfl tyInt _ _ _ _ 0 Z.size rfl rfl rfl rfl (Nat.zero_le _) (by omega) ?_; intro v5 w5 hv5 ho5 hn5 hs5; subst hv5; have H5 := Lib.hid (And.intro ho5 (And.intro hn5 hs5)); clear ho5 hn5 hs5; obtain ⟨cb, w7, hcv0, hn7, hs7, hck⟩ := HCV.out w5; have hcv := hcv0 Z HZE.out; rw [← HZ.out] at hcv; have H7 := Lib.hid (And.intro hn7 (And.intro hs7 hck)); clear hcv0 hn7 hs7 hck)
  go_loopw [3, 12] (fun t3 t12 wr => ∃ (i l1 c1 : Nat) (ad : Option Addr) (out : List Int), t3 = .slice ad l1 c1 ∧ t12 = .int .i64 i ∧ i ≤ Z.size ∧ out.length = i ∧ Hid (Own wr 3 (.slice ad l1 c1) (out.map (Value.int .i64)) ∧ (∀ g, (Value.slice ad l1 c1).ownBlock = some g → w.heap.size ≤ g ∧ g ≠ w5.heap.size) ∧ New w wr ∧ out = nUn (P.take i) ∧ w5.heap.size < wr.heap.size ∧ (∀ j (h : j < P.length), wr.cell? ⟨w5.heap.size, j, none⟩ = some (.int .u8 (P[j].toNat : Nat))))) (fun _ t12 _ => Z.size - (intOf t12).toNat)
  case atStart => exact ⟨0, _, _, _, [], rfl, rfl, Nat.zero_le _, rfl, H5.out.1.new H7.out.1, (fun g hg => by simp [Value.ownBlock] at hg; have := H5.out.2.2; omega), H5.out.2.1.trans H7.out.1, rfl, by have := H7.out.2.1; omega, H7.out.2.2⟩
  case round =>
    obtain ⟨i, l1, c1, ad, out, rfl, rfl, hi, hol, HL⟩ := hrel
    by_cases hin : i < Z.size
    · have hiP : i < P.length := by rw [← HZ.out]; exact hin
      have hck := HL.out.2.2.2.2.2 i hiP
      have HU : Hid (∀ z, z = nDig P[i] → out ++ [z] = nUn (P.take (i + 1))) := by
        intro z hz
        rw [nUn, List.take_add_one, List.getElem?_eq_getElem hiP, List.map_append, HL.out.2.2.2.1, hz]
        rfl
      have HD : Hid (nDig P[i] = if (P[i]).toNat = 46 then -1 else if 48 ≤ (P[i]).toNat ∧ (P[i]).toNat ≤ 57 then ((P[i]).toNat : Int) - 48 else 255) := by
        show nDig P[i] = _
        rfl
      obtain ⟨y, hy⟩ : ∃ y, y = (P[i]).toNat := ⟨_, rfl⟩
      have hy256 : y < 256 := by rw [hy]; exact (P[i]).toNat_lt
      obtain ⟨d, hd⟩ : ∃ d, d = nDig P[i] := ⟨_, rfl⟩
      rw [← hy] at hck HD
      rw [← hd] at HU HD
      clear hy hiP hd
      by_cases c1' : y = 46
      · have hz : Hid ((-1 : Int) = d) := by show _ = _; rw [HD.out, if_pos c1']
        subst c1'
        go_wp2_with (at_builtin; refine wpList_app1 rfl _ _ _ rfl tyInt wr HL.out.1 rfl _ _ rfl rfl rfl (by rw [List.length_map, hol]; omega) ?_; intro v8 w8 k1 k2 k3; obtain ⟨a8, c8, hv8, _, _⟩ := k1.shape'; have K8 := Lib.hid (And.intro k1 (And.intro k2 k3)); have HV8 := Lib.hid hv8; clear k1 k2 k3 hv8)
        obtain ⟨l8, hl8⟩ : ∃ l8, v8 = .slice a8 l8 c8 := ⟨_, HV8.out⟩
        subst hl8
        clear HV8
        go_wp2_with fail
        go_roundw
        case rel => exact ⟨i + 1, l8, c8, a8, out ++ [-1], rfl, by go_num, by omega, by rw [List.length_append, hol]; rfl, (by rw [List.map_append]; exact K8.out.1), (fun g hg => by
          rcases K8.out.2.2 g hg with h | h
          · exact HL.out.2.1 g h
          · have h1 := HL.out.2.2.1.size
            have h2 := HL.out.2.2.2.2.1
            omega), New.then HL.out.2.2.1 K8.out.2.1 (fun k hk => (HL.out.2.1 k hk).1), HU.out _ hz.out, Nat.lt_of_lt_of_le HL.out.2.2.2.2.1 K8.out.2.1.size, (fun j hj => K8.out.2.1.cell (HL.out.2.2.2.2.2 j hj) (fun e => (HL.out.2.1 _ e).2 rfl))⟩
        case measure => simp [intOf]; omega
      · have hq : ((y : Int) == 46) = false := by simp; omega
        by_cases c2 : 48 ≤ y
        · by_cases c3 : y ≤ 57
          · have hz : Hid ((y : Int) - 48 = d) := by show _ = _; rw [HD.out, if_neg c1', if_pos ⟨c2, c3⟩]
            clear c1'
            go_wp2_with (at_builtin; refine wpList_app1 rfl _ _ _ rfl tyInt wr HL.out.1 rfl _ _ rfl rfl rfl (by rw [List.length_map, hol]; omega) ?_; intro v8 w8 k1 k2 k3; obtain ⟨a8, c8, hv8, _, _⟩ := k1.shape'; have K8 := Lib.hid (And.intro k1 (And.intro k2 k3)); have HV8 := Lib.hid hv8; clear k1 k2 k3 hv8)
            obtain ⟨l8, hl8⟩ : ∃ l8, v8 = .slice a8 l8 c8 := ⟨_, HV8.out⟩
            subst hl8
            clear HV8
            go_wp2_with fail
            go_roundw
            case rel => exact ⟨i + 1, l8, c8, a8, out ++ [(y : Int) - 48], rfl, by go_num, by omega, by rw [List.length_append, hol]; rfl, (by rw [List.map_append]; exact K8.out.1), (fun g hg => by
              rcases K8.out.2.2 g hg with h | h
              · exact HL.out.2.1 g h
              · have h1 := HL.out.2.2.1.size
                have h2 := HL.out.2.2.2.2.1
                omega), New.then HL.out.2.2.1 K8.out.2.1 (fun k hk => (HL.out.2.1 k hk).1), HU.out _ hz.out, Nat.lt_of_lt_of_le HL.out.2.2.2.2.1 K8.out.2.1.size, (fun j hj => K8.out.2.1.cell (HL.out.2.2.2.2.2 j hj) (fun e => (HL.out.2.1 _ e).2 rfl))⟩
            case measure => simp [intOf]; omega
          · have hz : Hid ((255 : Int) = d) := by show _ = _; rw [HD.out, if_neg c1', if_neg (fun h => c3 h.2)]
            clear c1'
            go_wp2_with (at_builtin; refine wpList_app1 rfl _ _ _ rfl tyInt wr HL.out.1 rfl _ _ rfl rfl rfl (by rw [List.length_map, hol]; omega) ?_; intro v8 w8 k1 k2 k3; obtain ⟨a8, c8, hv8, _, _⟩ := k1.shape'; have K8 := Lib.hid (And.intro k1 (And.intro k2 k3)); have HV8 := Lib.hid hv8; clear k1 k2 k3 hv8)
            obtain ⟨l8, hl8⟩ : ∃ l8, v8 = .slice a8 l8 c8 := ⟨_, HV8.out⟩
            subst hl8
            clear HV8
            go_wp2_with fail
            go_roundw
            case rel => exact ⟨i + 1, l8, c8, a8, out ++ [255], rfl, by go_num, by omega, by rw [List.length_append, hol]; rfl, (by rw [List.map_append]; exact K8.out.1), (fun g hg => by
              rcases K8.out.2.2 g hg with h | h
              · exact HL.out.2.1 g h
              · have h1 := HL.out.2.2.1.size
                have h2 := HL.out.2.2.2.2.1
                omega), New.then HL.out.2.2.1 K8.out.2.1 (fun k hk => (HL.out.2.1 k hk).1), HU.out _ hz.out, Nat.lt_of_lt_of_le HL.out.2.2.2.2.1 K8.out.2.1.size, (fun j hj => K8.out.2.1.cell (HL.out.2.2.2.2.2 j hj) (fun e => (HL.out.2.1 _ e).2 rfl))⟩
            case measure => simp [intOf]; omega
        · have hz : Hid ((255 : Int) = d) := by show _ = _; rw [HD.out, if_neg c1', if_neg (fun h => c2 h.1)]
          clear c1'
          go_wp2_with (at_builtin; refine wpList_app1 rfl _ _ _ rfl tyInt wr HL.out.1 rfl _ _ rfl rfl rfl (by rw [List.length_map, hol]; omega) ?_; intro v8 w8 k1 k2 k3; obtain ⟨a8, c8, hv8, _, _⟩ := k1.shape'; have K8 := Lib.hid (And.intro k1 (And.intro k2 k3)); have HV8 := Lib.hid hv8; clear k1 k2 k3 hv8)
          obtain ⟨l8, hl8⟩ : ∃ l8, v8 = .slice a8 l8 c8 := ⟨_, HV8.out⟩
          subst hl8
          clear HV8
          go_wp2_with fail
          go_roundw
          case rel => exact ⟨i + 1, l8, c8, a8, out ++ [255], rfl, by go_num, by omega, by rw [List.length_append, hol]; rfl, (by rw [List.map_append]; exact K8.out.1), (fun g hg => by
            rcases K8.out.2.2 g hg with h | h
            · exact HL.out.2.1 g h
            · have h1 := HL.out.2.2.1.size
              have h2 := HL.out.2.2.2.2.1
              omega), New.then HL.out.2.2.1 K8.out.2.1 (fun k hk => (HL.out.2.1 k hk).1), HU.out _ hz.out, Nat.lt_of_lt_of_le HL.out.2.2.2.2.1 K8.out.2.1.size, (fun j hj => K8.out.2.1.cell (HL.out.2.2.2.2.2 j hj) (fun e => (HL.out.2.1 _ e).2 rfl))⟩
          case measure => simp [intOf]; omega
    · obtain rfl : i = Z.size := by omega
      go_wp2_with fail
      go_ret
      exact ⟨_, rfl, (by
        have h := HL.out.1
        rw [HL.out.2.2.2.1, HZ.out, List.take_length] at h
        exact h), (fun g hg => (HL.out.2.1 g hg).1), HL.out.2.2.1⟩
end Go.Proofs.YtcdbeepphdfipaaGreatDoor

namespace Go.Proofs.YtcdbeepphdfipaaGreatDoor
open Go.RowKit
open Go.Maps (Keyed)
set_option linter.unusedVariables false

/-- A value reads as itself. -/
def idE (v : Value) : Option (DataW Value × List MemPlace) := some (.held v, [])
/-- Block b is a map from texts: f tells what lies at a text. -/
def MapS (P : Program) (k : TypeId) (w : World) (b n : Nat) (f : List UInt8 → Option Value) : Prop :=
  ∃ D : DataW Value, w.ownsMap P k idE b n D ∧ ∀ x, Maps.has D (.string x) = (f x).isSome ∧ ∀ zd, D.atKey (.string x) zd = (match f x with | some v => .held v | none => zd)
theorem MapS.made (P : Program) (k : TypeId) (w : World) : MapS P k (w.alloc (.map #[] 0)) w.heap.size 0 (fun _ => none) :=
  ⟨_, World.ownsMap_made w P k idE, fun x => ⟨rfl, fun zd => rfl⟩⟩
theorem MapS.chg {P : Program} {k : TypeId} {w w' : World} {b n : Nat} {f : List UInt8 → Option Value} {S : Nat → Prop} (h : MapS P k w b n f) (hc : Chg S w w') (hb : ¬ S b) : MapS P k w' b n f := by
  obtain ⟨D, ⟨es, clock, hh, r⟩, h2⟩ := h
  exact ⟨D, ⟨es, clock, hc.heapAt hh hb, r⟩, h2⟩
theorem MapS.new {P : Program} {k : TypeId} {w w' : World} {b n : Nat} {f : List UInt8 → Option Value} (h : MapS P k w b n f) (hc : New w w') : MapS P k w' b n f := h.chg hc (fun x => x)
theorem lit_neS {x y : List UInt8} (h : x ≠ y) : (Lit.string x) ≠ .string y := fun e => h (by injection e)
theorem keyS {P : Program} {k : TypeId} (hk : P.underlying k = some .string) (x : List UInt8) (hx : x.length ≤ 2000000) : keyOf P k (.string (bs x)) = some (.string x) := by
  have h := Go.WideMaps.keyOf_string_mk (P := P) hk (s := bs x) (by rw [bs_size]; unfold maxLen; omega)
  rwa [bs_list] at h
theorem MapS.store {P : Program} {k e t : TypeId} {w : World} {b n : Nat} {f : List UInt8 → Option Value} (h : MapS P k w b n f) (hk : P.underlying k = some .string) (ht : P.underlying t = some (.map k e)) (hn : n < 1000) (x : List UInt8) (hx : x.length ≤ 2000000) (v : Value) :
    ∃ w', (Instr.mapUpdate t (.map (some b)) (.string (bs x)) v).run P w = .ok () w' ∧ MapS P k w' b (n + 1) (fun y => if y = x then some v else f y) ∧ Chg (· = b) w w' := by
  obtain ⟨D, h1, h2⟩ := h
  have hkey := keyS hk x hx
  have hik := (Maps.string_keyed hk).key hkey
  obtain ⟨w', hrun, hown, htu⟩ := h1.store (Maps.string_keyed hk) ht (by unfold maxLen; omega) hkey (val := v) (d := .held v) (ps := []) rfl
  refine ⟨w', hrun, ⟨_, hown, fun y => ?_⟩, (Chg.of_grown htu.grown).mono (fun i _ hi => by injection hi with hi; exact hi.symm)⟩
  by_cases c : y = x
  · subst c
    simp only [if_true]
    exact ⟨Maps.has_put_same h1.isMap hik _, fun zd => Maps.atKey_put_same h1.isMap hik _ _⟩
  · simp only [if_neg c]
    rw [Maps.has_put_other (lit_neS c)]
    exact ⟨(h2 y).1, fun zd => by rw [Maps.atKey_put_other (lit_neS c)]; exact (h2 y).2 zd⟩
theorem MapS.look {P : Program} {k e t : TypeId} {w : World} {b n : Nat} {f : List UInt8 → Option Value} (h : MapS P k w b n f) (hk : P.underlying k = some .string) (ht : P.underlying t = some (.map k e)) (hz : (zeroValue e).run P w = .ok .nilFunc w) (x : List UInt8) (hx : x.length ≤ 2000000) :
    (Instr.lookup t (.map (some b)) (.string (bs x)) true).run P w = .ok (.tuple #[(f x).getD .nilFunc, .bool (f x).isSome]) w := by
  obtain ⟨D, h1, h2⟩ := h
  obtain ⟨v, ps, hrun, hv⟩ := h1.look_ok (Maps.string_keyed hk) ht hz (zd := .held .nilFunc) (zp := []) rfl (keyS hk x hx)
  rw [hrun, (h2 x).1]
  have h3 := (h2 x).2 (.held .nilFunc)
  unfold idE at hv
  injection hv with hv
  injection hv with hv _
  rw [h3] at hv
  cases hf : f x with
  | none => rw [hf] at hv; injection hv with hv; rw [hv]; rfl
  | some y => rw [hf] at hv; injection hv with hv; rw [hv]; rfl
end Go.Proofs.YtcdbeepphdfipaaGreatDoor
