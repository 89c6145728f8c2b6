/- strings.Cut at one byte; a digit's number by Atoi. strconv.Atoi at every text: what it says of a digit. strings.SplitSeq: the iterator. A range over an iterator that hands another value in each round. The iterator of strings.SplitSeq hands the pieces of the text in their order. strings.Split at one byte: the pieces. The bytes of a text. append on memory of one's own, within a round. -/
import Derived.Test.YtcdbeepphdfipaaGreatDoorShelf
import Derived.Test.YtcdbeepphdfipaaGreatDoorPrsS
import Derived.Lib.IndexLaws
import Derived.Lib.SmallJoins
import Derived.Laws.EntriesVeiled
import Derived.Test.YtcdbeepphdfipaaGreatDoorRang
import Derived.Test.YtcdbeepphdfipaaGreatDoorLawK
import Derived.Sort.QuietIn
import Derived.Lib.SplitLaws
import Derived.Test.YtcdbeepphdfipaaGreatDoorBase
import Derived.Laws.IdiomStrings
namespace Go.Proofs.YtcdbeepphdfipaaGreatDoor
open Go.RowKit
set_option linter.unusedVariables false

theorem atoi_dig (q : Int) (h0 : 0 ≤ q) (h9 : q ≤ 9) : Lib.atoiAll [digB q] = .ok q := by
  have h : q = 0 ∨ q = 1 ∨ q = 2 ∨ q = 3 ∨ q = 4 ∨ q = 5 ∨ q = 6 ∨ q = 7 ∨ q = 8 ∨ q = 9 := by omega
  rcases h with rfl | rfl | rfl | rfl | rfl | rfl | rfl | rfl | rfl | rfl <;> decide +kernel

theorem toList_inj {a b : ByteArray} (h : a.toList = b.toList) : a = b := by
  have h2 : a.data.toList = b.data.toList := by simpa [ByteArray.toList_eq] using h
  exact ByteArray.ext (Array.toList_inj.1 h2)

theorem notin_of {L : List UInt8} {c : UInt8} (h : ∀ k : Nat, L[k]? ≠ some c) : c ∉ L := by
  intro hm
  obtain ⟨i, hi, e⟩ := List.getElem_of_mem hm
  exact h i (by rw [List.getElem?_eq_getElem hi, e])
theorem cut_some {L : List UInt8} {c : UInt8} {o : Nat} (h : Lib.indexByte L c = o) : o < L.length ∧ L = L.take o ++ c :: L.drop (o + 1) ∧ c ∉ L.take o := by
  obtain ⟨h1, h2⟩ := Lib.indexByte_some h
  have ho : o < L.length := by
    rcases Nat.lt_or_ge o L.length with k | k
    · exact k
    · rw [List.getElem?_eq_none k] at h1; cases h1
  refine ⟨ho, ?_, notin_of (fun k hk => ?_)⟩
  · rw [List.getElem?_eq_getElem ho] at h1
    simp only [Option.some.injEq] at h1
    have e := (List.take_append_drop o L).symm
    rw [List.drop_eq_getElem_cons ho, h1] at e
    exact e
  · rw [List.getElem?_take] at hk
    split at hk
    · rename_i hlt
      exact h2 k hlt hk
    · cases hk

set_option maxHeartbeats 1000000 in
theorem slIndex_one (L : List UInt8) (c : UInt8) (w : World) :
    Calls Tryz.prog 94 #[.string (bs L), .string ⟨#[c]⟩] w fun e w' => e = .returned (.int .i64 (Lib.indexByte L c)) ∧ w = w' := by
  obtain ⟨S, hS⟩ : ∃ S, S = bs L := ⟨_, rfl⟩
  obtain ⟨y, hy⟩ : ∃ y, y = c.toNat := ⟨_, rfl⟩
  obtain ⟨C, hC⟩ : ∃ C, C = bs [c] := ⟨_, rfl⟩
  have hC1 : (C.size : Int) = 1 := by rw [hC, bs_size]; rfl
  have hix : ∀ w, (Instr.index 9 (.string C) (.int .i64 0)).run Tryz.prog w = .ok (.int .u8 (y : Nat)) w := by
    obtain ⟨x, hx1, hx2⟩ := run_idx [c] 0 (by simp)
    intro w
    have h := hx2 w
    simp at hx1
    subst hx1
    rw [hy, hC]
    exact h
  have hI : Hid (Lib.indexByte S.data.toList (y : Int).toNat.toUInt8 = Lib.indexByte L c) := by
    show _ = _
    rw [hS, bs_list, hy, Int.toNat_natCast]
    congr 1
    exact UInt8.toNat_inj.1 (by simp)
  rw [show (⟨#[c]⟩ : ByteArray) = bs [c] from rfl, ← hC, ← hS]
  have HCS := Lib.hid (And.intro hC hS)
  clear hC hS hy
  go_enter Tryz.func94, Tryz.ntmps94
  go_wp2_with (go_at_call 132; refine (Tryz.stringslite_IndexByte S (y : Int) _).mono ?_; rintro e w' ⟨rfl, rfl⟩)
  · rename_i he
    go_ret
    refine ⟨ret_int ?_, rfl⟩
    have e1 : C.toList = S.toList := by simpa using he
    have e2 : C = S := toList_inj e1
    rw [HCS.out.1, HCS.out.2] at e2
    have e3 := congrArg (fun b => b.data.toList) e2
    simp only [bs_list] at e3
    rw [← e3]
    simp [Lib.indexByte]
  · go_ret
    exact ⟨ret_int (by rw [← hI.out]; simp), rfl⟩

theorem run_sto (L : List UInt8) (i : Nat) (h2 : i ≤ L.length) (w : World) : (Instr.slice 9 (.string (bs L)) none (some (.int .i64 (i : Int))) none).run Tryz.prog w = .ok (.string (bs (L.take i))) w := by
  rw [run_slice_string_to_if w _ _ _ _ Tryz.underlying9, if_pos (by rw [bs_size]; omega), bs, ByteArray.extract_mk]
  simp [bs]
/-- What Cut at one byte gives. -/
def CutR (L : List UInt8) (c : UInt8) (A B : List UInt8) (ok : Bool) : Prop := (ok = true ∧ L = A ++ c :: B ∧ c ∉ A) ∨ (ok = false ∧ A = L ∧ c ∉ L)
def EndC (L : List UInt8) (c : UInt8) (w : World) (e : Ending) (w' : World) : Prop := ∃ A B ok, e = .returned (.tuple #[.string (bs A), .string (bs B), .bool ok]) ∧ CutR L c A B ok ∧ New w w'

set_option maxHeartbeats 1000000 in
theorem slCut_one (L : List UInt8) (c : UInt8) (w : World) (hL : L.length ≤ 2000000) :
    Calls Tryz.prog 58 #[.string (bs L), .string ⟨#[c]⟩] w fun e w' => EndC L c w e w' := by
  obtain ⟨S, hS⟩ : ∃ S, S = bs L := ⟨_, rfl⟩
  obtain ⟨C, hC⟩ : ∃ C, C = (⟨#[c]⟩ : ByteArray) := ⟨_, rfl⟩
  have hC1 : (C.size : Int) = 1 := by rw [hC]; rfl
  obtain ⟨z, hz⟩ : ∃ z, z = Lib.indexByte L c := ⟨_, rfl⟩
  have KI := Lib.hid (slIndex_one L c w)
  have hz1 := Lib.indexByte_ge L c
  have HL := Lib.hid hL
  rw [← hz] at hz1 KI
  rw [← hC, ← hS] at KI ⊢
  by_cases hz0 : 0 ≤ z
  · obtain ⟨o, rfl⟩ : ∃ o : Nat, z = o := ⟨z.toNat, by omega⟩
    have HC := Lib.hid (cut_some hz.symm)
    have s1 := run_sto L o (Nat.le_of_lt HC.out.1)
    have s2 := run_slf L (o + 1) HC.out.1
    rw [← hS] at s1 s2
    have hoL : o ≤ 2000000 := by have := HC.out.1; omega
    have s2' : ∀ w, (Instr.slice 9 (.string S) (some (.int .i64 ((o : Int) + 1))) none none).run Tryz.prog w = .ok (.string (bs (L.drop (o + 1)))) w := fun w => by
      have h := s2 w
      rw [Int.natCast_add] at h
      exact h
    clear hS hC hz s2 hz1 hL
    go_enter Tryz.func58, Tryz.ntmps58
    go_wp2_with (go_at_call 94; refine KI.out.mono ?_; rintro e w' ⟨rfl, rfl⟩)
    go_quiet (fail)
    go_wp2_with fail
    refine bodyPost_ret (v := .tuple #[.string (bs (L.take o)), .string (bs (L.drop (o + 1))), .bool true]) (by simp [results, go_sem]) rfl ?_
    exact ⟨L.take o, L.drop (o + 1), true, rfl, .inl ⟨rfl, HC.out.2⟩, New.drewN _ _⟩
  · have hz2 : z = -1 := by omega
    have HN := Lib.hid (notin_of (Lib.indexByte_none (hz.symm.trans hz2)))
    subst hz2
    have HS := Lib.hid hS
    clear hS hC hz hz1 hL
    go_enter Tryz.func58, Tryz.ntmps58
    go_wp2_with (go_at_call 94; refine KI.out.mono ?_; rintro e w' ⟨rfl, rfl⟩)
    refine bodyPost_ret (v := .tuple #[.string S, .string ⟨#[]⟩, .bool false]) (by simp [results, go_sem]) rfl ?_
    exact ⟨L, [], false, by rw [← HS.out]; rfl, .inr ⟨rfl, rfl, HN.out⟩, Chg.refl _ _⟩

set_option maxHeartbeats 1000000 in
theorem cut_any (L : List UInt8) (c : UInt8) (w : World) (hL : L.length ≤ 2000000) :
    Calls Tryz.prog 27 #[.string (bs L), .string ⟨#[c]⟩] w fun e w' => EndC L c w e w' := by
  have KC := Lib.hid (slCut_one L c w hL)
  clear hL
  go_enter Tryz.func27, Tryz.ntmps27
  go_wp2_with (go_at_call 58; refine KC.out.mono ?_; rintro e w' ⟨A, B, ok, rfl, hr, hn⟩; have HR := Lib.hid (And.intro hr hn); clear hr hn)
  refine bodyPost_ret (v := .tuple #[.string (bs A), .string (bs B), .bool ok]) (by simp [results, go_sem]) rfl ?_
  exact ⟨A, B, ok, rfl, HR.out.1, HR.out.2⟩
end Go.Proofs.YtcdbeepphdfipaaGreatDoor

namespace Go.Proofs.YtcdbeepphdfipaaGreatDoor
open Go.RowKit Go.Joins
set_option linter.unusedVariables false

/-- The two errors' variables hold something. -/
def ErrV (w : World) : Prop := ∀ g, g = 1 ∨ g = 2 → ∃ ev, w.cell? ⟨g, 0, none⟩ = some ev ∧ (ev = .nilIface ∨ ∃ te pe, ev = .iface te pe)
theorem ErrV.new {w w' : World} (h : ErrV w) (hn : New w w') : ErrV w' := fun g hg => by
  obtain ⟨ev, h1, h2⟩ := h g hg
  exact ⟨ev, hn.cellNew h1, h2⟩
/-- It ends with a number that is a digit's where the text is a digit, or with an error and the text is no digit. -/
def EndA (a : List UInt8) (w : World) (e : Ending) (w' : World) : Prop :=
  (∃ v : Int, e = .returned (.tuple #[.int .i64 v, .nilIface]) ∧ (∀ q : Int, 0 ≤ q → q ≤ 9 → a = [digB q] → v = q) ∧ New w w') ∨
  (∃ (v : Int) (t : TypeId) (x : Value), e = .returned (.tuple #[.int .i64 v, .iface t x]) ∧ (∀ q : Int, 0 ≤ q → q ≤ 9 → a ≠ [digB q]) ∧ New w w')

theorem atoi_any (a : List UInt8) (w : World) (ha : a.length ≤ 2000000) (hv : ErrV w) :
    Calls Tryz.prog 28 #[.string (bs a)] w fun e w' => EndA a w e w' := by
  have hs := bs_size a
  cases h : Lib.atoiAll a with
  | ok v =>
    refine (Tryz.strconv_Atoi_ok (bs a) (by omega) v (by rw [bs_list]; exact h) w).mono ?_
    rintro e w' ⟨rfl, hw⟩
    refine .inl ⟨v, rfl, fun q h0 h9 e => ?_, ?_⟩
    · rw [e, atoi_dig q h0 h9] at h
      cases h
      rfl
    · rcases hw with rfl | ⟨t, rfl⟩
      · exact Chg.refl _ _
      · exact Chg.of_below (below_bytesWorld _ _ _ _ (Nat.le_refl _))
  | «syntax» =>
    obtain ⟨ev, h1, h2⟩ := hv 1 (.inl rfl)
    refine (Tryz.strconv_Atoi_syntax (bs a) (by omega) (by rw [bs_list]; exact h) ev w h1 h2).mono ?_
    rintro e w' ⟨N, rfl, _, _, hb⟩
    exact .inr ⟨_, _, _, rfl, (fun q h0 h9 e => by rw [e, atoi_dig q h0 h9] at h; cases h), Chg.of_below hb⟩
  | range =>
    obtain ⟨ev, h1, h2⟩ := hv 2 (.inr rfl)
    refine (Tryz.strconv_Atoi_range (bs a) (by omega) (by rw [bs_list]; exact h) ev w h1 h2).mono ?_
    rintro e w' ⟨N, rfl, _, _, hb⟩
    exact .inr ⟨_, _, _, rfl, (fun q h0 h9 e => by rw [e, atoi_dig q h0 h9] at h; cases h), Chg.of_below hb⟩
end Go.Proofs.YtcdbeepphdfipaaGreatDoor

namespace Go.Proofs.YtcdbeepphdfipaaGreatDoor
open Go.RowKit
set_option linter.unusedVariables false

/-- The iterator's value: the boxes of sep, of the text and of 0. -/
def seqV (s : Nat) : Value := .func (.func 100) #[] #[.pointer (some ⟨s + 1, 0, none⟩), .pointer (some ⟨s, 0, none⟩), .pointer (some ⟨s + 1 + 1, 0, none⟩)]

set_option maxHeartbeats 1000000 in
theorem splitSeq_any (S C : ByteArray) (w : World) :
    Calls Tryz.prog 29 #[.string S, .string C] w fun e w' => e = .returned (seqV w.heap.size) ∧
      w' = ((w.alloc (.cells #[.string S] 9)).alloc (.cells #[.string C] 9)).alloc (.cells #[.int .i64 0] 3) := by
  go_enter Tryz.func29, Tryz.ntmps29
  go_wp2
  go_ret
  exact ⟨rfl, rfl⟩
end Go.Proofs.YtcdbeepphdfipaaGreatDoor

namespace Go.Proofs.YtcdbeepphdfipaaGreatDoor
open Go.RowKit
set_option linter.unusedVariables false

/-- The iterator's word: J between two rounds, R what lies at the block that is handed. -/
def SeqS (F : Fence) (n : Nat) (P : Program) (g : Nat) (lb : Array Value) (K : Nat → Nat → Prop) (val : Nat → Value) (R : Nat → Nat → World → Prop) (T bx : Nat) (w0 : World) : Prop :=
  ∀ (l : Nat) (J : Nat → World → Prop) (W : World), New w0 W → (∀ t X Y, J t X → Chg (· = bx) X Y → J t Y) →
    (∀ t X, t < T → J t X → R W.heap.size t X → YieldAt F (n - 1) P l #[val t] X fun e Y => e = .returned (.bool true) ∧ J (t + 1) Y ∧ X.heap.size ≤ Y.heap.size ∧ ∀ b, K W.heap.size b → Y.heap[b]? = X.heap[b]?) →
    J 0 W →
    CallsIn F n P g (#[.func (.yield l) #[] #[]] ++ lb) W fun e Y => (∃ v, e = .returned v) ∧ J T Y


variable {F : Fence} {n : Nat} {P : Program}

theorem wpIn_rangeS {g : Operand} {ps : Array Tmp} {assign body : Code} {Q : Exit → Act → World → Prop} {a : Act} {w : World}
    (hro : F.round = none) (h1 : 1 ≤ n) {gf : Nat} {lb : Array Value} (hg : a.eval g = .func (.func gf) #[] lb) (hFg : F.fn gf) (eg : ∀ args w, (callFunc gf args).run P w = .ok (.enter gf args) w)
    {K : Nat → Nat → Prop} {val : Nat → Value} {R : Nat → Nat → World → Prop} {T bx : Nat} {w0 : World} (hseq : SeqS F (n - 1) P gf lb K val R T bx w0) (hbx : bx < w.heap.size)
    (hb0 : New w0 w) (hps : ps.size = 1) (hK : ∀ b, K (w.heap.size + 2) b → b ≠ w.heap.size + 1) (hR : ∀ t X Y, R (w.heap.size + 2) t X → Y.heap[w.heap.size + 2]? = X.heap[w.heap.size + 2]? → R (w.heap.size + 2) t Y)
    (I : Nat → World → Prop) (hI : ∀ t X Y, I t X → Chg (fun k => (w.heap.size ≤ k ∧ k ≤ w.heap.size + 1) ∨ k = bx) X Y → I t Y) (h0 : I 0 w) (a₁ : Nat → Act)
    (hassign : ∀ (l t : Nat) (W : World) (C : Act → World → Prop), C (a₁ t) W →
      assign.wpIn (F.inRound l) (n - 1 - 1) P (Exit.then C (fun _ _ _ => False)) { tmps := (ps.zip #[val t]).foldl (fun t (p, v) => t.setIfInBounds p v) a.tmps, defers := [] } W)
    (hbody : ∀ (l t : Nat) (W : World), t < T → I t W → w.heap.size + 2 ≤ W.heap.size → R (w.heap.size + 2) t W → body.wpIn (F.inRound l) (n - 1 - 1) P (postM w.heap.size (K (w.heap.size + 2)) (I (t + 1)) W) (a₁ t) W)
    (hdone : ∀ (W : World), I T W → W.heap[w.heap.size]? = some (.deferred (some [])) → Q .normal { a with defers := { target := .collected w.heap.size, args := #[] } :: a.defers } W) :
    (Code.rangeFunc g ps assign body).wpIn F n P Q a w := by
  refine wpIn_rangeFunc ?_
  intro fn hfn
  rw [hro]
  obtain ⟨rec, hrec⟩ : ∃ rec : LoopState → Option Code → Loop, rec = fun st pe => { state := st, pending := pe, fn, tmps := a.tmps, params := ps, assign, body, defers := w.heap.size } := ⟨_, rfl⟩
  obtain ⟨W1, hW1⟩ : ∃ W1, (w.alloc (.deferred (some []))).alloc (.loop (rec .ready none)) = W1 := ⟨_, rfl⟩
  have hL1 : W1.heap[w.heap.size + 1]? = some (.loop (rec .ready none)) := by
    rw [← hW1]; have := World.alloc_heap_new (w.alloc (.deferred (some []))) (.loop (rec .ready none)); rwa [World.size_alloc] at this
  have hK1 : W1.heap[w.heap.size]? = some (.deferred (some [])) := by
    rw [← hW1]; exact (Below.heap_alloc _ _ _ (by simp)).trans (World.alloc_heap_new w _)
  have hN1 : New w W1 := by rw [← hW1]; exact (New.alloc _ _).trans (New.alloc _ _)
  have hs1 : W1.heap.size = w.heap.size + 2 := by rw [← hW1]; simp
  have hI1 : I 0 W1 := hI _ _ _ h0 (hN1.mono (fun _ _ x => x.elim))
  refine ⟨w.heap.size + 1, [{ target := .collected w.heap.size, args := #[] }], W1, { target := .fn (.func gf) lb, args := #[.func (.yield (w.heap.size + 1)) #[] #[]] }, W1, gf,
    #[.func (.yield (w.heap.size + 1)) #[] #[]] ++ lb, W1, ?_, ?_, ?_, ?_, fun _ => h1, ?_⟩
  · rw [← hW1, hrec]; exact run_enterLoop_outer _ _ _ _ _
  · simp only [resolve, hg]
    simp [go_sem]
  · intro f' hf'; simp [Target.leads] at hf'; subst hf'; exact hFg
  · simp [invoke, go_sem, eg]
  · refine (hseq (w.heap.size + 1)
      (fun t X => I t X ∧ (X.heap[w.heap.size + 1]? = some (.loop (rec .ready none)) ∧ X.heap[w.heap.size]? = some (.deferred (some []))) ∧ w.heap.size + 2 ≤ X.heap.size)
      W1 (hb0.trans hN1)
      (fun t X Y hs hc => ⟨hI _ _ _ hs.1 (hc.mono (fun i _ e => .inr e)), ⟨hc.heapAt hs.2.1.1 (by omega), hc.heapAt hs.2.1.2 (by omega)⟩, Nat.le_trans hs.2.2 hc.size⟩)
      ?_ ⟨hI1, ⟨hL1, hK1⟩, by omega⟩).mono ?_
    · -- one round
      rw [hs1]
      rintro t W ht ⟨hi, ⟨hl, hk⟩, hsz⟩ hr
      have hlt : w.heap.size + 1 < W.heap.size := (Array.getElem?_eq_some_iff.1 hl).1
      have hy := run_yield (P := P) (args := #[val t]) hl (by rw [hrec]; simp [hps])
      rw [hrec] at hy
      refine ⟨fn, _, assign, body, hy, roundIn_of_wpIn hfn (hassign _ t W _ ⟨_, run_beginRound hl (by rw [hrec]), ?_⟩)⟩
      have hl2 : (W.putObj (w.heap.size + 1) (.loop { rec .ready none with state := .busy })).heap[w.heap.size + 1]? = some (.loop { rec .ready none with state := .busy }) := World.putObj_heap_same hlt
      have hk2 : (W.putObj (w.heap.size + 1) (.loop { rec .ready none with state := .busy })).heap[w.heap.size]? = some (.deferred (some [])) := (World.putObj_heap_other (by omega)).trans hk
      refine wpIn_mono (hbody _ t _ ht (hI _ _ _ hi ((chg_putObj W (w.heap.size + 1) _).mono (fun i _ e => by omega))) (by simpa using hsz) (hR _ _ _ hr (World.putObj_heap_other (by omega)))) ?_
      rintro e a3 W3 hp
      cases e with
      | normal =>
        obtain ⟨hi3, hsz3, hkeep⟩ := hp
        have hl3 := (hkeep (w.heap.size + 1) (.inr (.inl rfl))).trans hl2
        have hk3 := (hkeep w.heap.size (.inl rfl)).trans hk2
        have hend := run_endRound (P := P) none hl3
        rw [hrec] at hend
        refine ⟨_, _, hend, rfl, ⟨hI _ _ _ hi3 ((chg_putObj W3 (w.heap.size + 1) _).mono (fun i _ e => by omega)), ⟨?_, (World.putObj_heap_other (by omega)).trans hk3⟩, ?_⟩, ?_, fun b hb => ?_⟩
        · rw [hrec]; exact World.putObj_heap_same (Array.getElem?_eq_some_iff.1 hl3).1
        · simp at hsz3 ⊢; omega
        · simp at hsz3 ⊢; omega
        · have hne := hK b hb
          exact (World.putObj_heap_other hne).trans ((hkeep b (.inr (.inr hb))).trans (World.putObj_heap_other hne))
      | ret => exact hp.elim
      | exit id => exact hp.elim
      | goto t => exact hp.elim
      | panic ch => exact hp.elim
      | outgrown => exact hp.elim
    · rintro e W2 ⟨⟨v, rfl⟩, hi, ⟨hl, hk⟩, hsz⟩
      exact ⟨none, _, by have := run_endLoop (P := P) hl (by rw [hrec]; simp); rw [hrec] at this; exact this, hdone _ (hI _ _ _ hi ((chg_putObj W2 (w.heap.size + 1) _).mono (fun i _ e => by omega))) ((World.putObj_heap_other (by omega)).trans hk)⟩
end Go.Proofs.YtcdbeepphdfipaaGreatDoor

namespace Go.Proofs.YtcdbeepphdfipaaGreatDoor
open Go.RowKit
set_option linter.unusedVariables false
attribute [local go_sem] Oper.semAt_some

/-- The t-th piece. -/
def pieceT (c : UInt8) (L : List UInt8) (t : Nat) : List UInt8 := (splitB c L).getD t []
theorem piece_next {c : UInt8} {L R : List UInt8} {out : List (List UInt8)} {i : Nat} (h : splitB c L = out ++ splitB c R) (hi : Lib.indexByte R c = i) :
    i < R.length ∧ pieceT c L out.length = R.take i ∧ out.length < (splitB c L).length ∧ splitB c L = (out ++ [R.take i]) ++ splitB c (R.drop (i + 1)) := by
  obtain ⟨h1, h2, h3⟩ := cut_some hi
  have e : splitB c R = R.take i :: splitB c (R.drop (i + 1)) := by
    conv => lhs; rw [h2]
    exact splitB_app _ h3
  rw [e] at h
  refine ⟨h1, ?_, ?_, ?_⟩
  · rw [pieceT, h, List.getD_eq_getElem?_getD, List.getElem?_append_right (Nat.le_refl _), Nat.sub_self]
    rfl
  · rw [h, List.length_append, List.length_cons]; omega
  · rw [h, List.append_assoc]; rfl
theorem piece_last {c : UInt8} {L R : List UInt8} {out : List (List UInt8)} (h : splitB c L = out ++ splitB c R) (hi : Lib.indexByte R c = -1) :
    pieceT c L out.length = R ∧ (splitB c L).length = out.length + 1 := by
  rw [splitB_none (notin_of (Lib.indexByte_none hi))] at h
  refine ⟨?_, ?_⟩
  · rw [pieceT, h, List.getD_eq_getElem?_getD, List.getElem?_append_right (Nat.le_refl _), Nat.sub_self]
    rfl
  · rw [h, List.length_append]; rfl

/-- The length of the text in a box. -/
def slen (s : Nat) (w : World) : Nat := match w.cell? ⟨s, 0, none⟩ with | some (.string b) => b.size | _ => 0
theorem slen_eq {s : Nat} {w : World} {S : ByteArray} (h : Blk1 w s (.string S) 9) : slen s w = S.size := by
  obtain ⟨c, _⟩ := h.cells
  rw [slen, c]

set_option maxRecDepth 100000 in
set_option maxHeartbeats 4000000 in
theorem splitSeq_seq (L : List UInt8) (c : UInt8) (s n : Nat) (w0 : World) (hL : L.length ≤ 2000000) (hb0 : Blk1 w0 s (.string (bs L)) 9) (hb1 : Blk1 w0 (s + 1) (.string ⟨#[c]⟩) 9) (hb2 : Blk1 w0 (s + 1 + 1) (.int .i64 0) 3) (hn : 2 ≤ n) :
    SeqS Fence.wide n Tryz.prog 100 #[.pointer (some ⟨s + 1, 0, none⟩), .pointer (some ⟨s, 0, none⟩), .pointer (some ⟨s + 1 + 1, 0, none⟩)] (fun _ b => b = s ∨ b = s + 1 ∨ b = s + 1 + 1) (fun t => .string (bs (pieceT c L t)))
      (fun _ _ _ => True) (splitB c L).length s w0 := by
  intro l J W hW hJ hY h0
  have B0 := Lib.hid (hb0.new hW)
  have B1 := Lib.hid (hb1.new hW)
  have B2 := Lib.hid (hb2.new hW)
  obtain ⟨c1, f1⟩ := B1.out.cells
  have HJ := Lib.hid hJ
  have HY := Lib.hid hY
  have H0 := Lib.hid h0
  have HN := Lib.hid hn
  obtain ⟨C, hC⟩ : ∃ C, C = (⟨#[c]⟩ : ByteArray) := ⟨_, rfl⟩
  have hC1 : (C.size : Int) = 1 := by rw [hC]; rfl
  have HC := Lib.hid hC
  rw [← hC] at B1 c1
  clear hb0 hb1 hb2 hJ hY h0 hW hn hC
  refine callsIn_of_wp Tryz.func100 rfl trivial ?_ rfl
  simp only [Tryz.ntmps100, List.size_toArray, List.length_cons, List.length_nil, Nat.reduceAdd, Nat.reduceSub, Array.replicate_succ, Array.replicate_zero, List.push_toArray, List.append_toArray, List.nil_append, List.cons_append]
  gi_wp2
  gi_loopw [7] (fun t7 wr => ∃ (out : List (List UInt8)) (R : List UInt8), R.length ≤ 2000000 ∧ Hid (splitB c L = out ++ splitB c R) ∧ Hid (J out.length wr ∧ Blk1 wr s (.string (bs R)) 9 ∧ Blk1 wr (s + 1) (.string C) 9 ∧ Blk1 wr (s + 1 + 1) (.int .i64 0) 3)) (fun _ wr => slen s wr)
  case atStart => exact ⟨[], L, hL, rfl, H0.out, B0.out, B1.out, B2.out⟩
  case round =>
    obtain ⟨out, R, hR, HP, HD⟩ := hrel
    obtain ⟨wz, hwz⟩ : ∃ wz : World, wz = wr := ⟨_, rfl⟩
    rw [← hwz] at HD
    rw [← hwz]
    clear hwz
    obtain ⟨e0, f0⟩ := HD.out.2.1.cells
    obtain ⟨e1, _⟩ := HD.out.2.2.1.cells
    obtain ⟨e2, _⟩ := HD.out.2.2.2.cells
    obtain ⟨z, hz⟩ : ∃ z, z = Lib.indexByte R c := ⟨_, rfl⟩
    obtain ⟨S, hS⟩ : ∃ S, S = bs R := ⟨_, rfl⟩
    have KI : Hid (∀ w, Calls Tryz.prog 102 #[.string S, .string C] w fun e w' => e = .returned (.int .i64 z) ∧ w = w') := by
      refine Lib.hid (fun w => ?_)
      have h := Tryz.strings_Index_one (bs R) c w
      rw [bs_list, ← hz] at h
      rw [hS, HC.out]
      exact h.mono (fun e w' k => ⟨k.1, k.2.symm⟩)
    have hz1 := Lib.indexByte_ge R c
    rw [← hz] at hz1
    rw [← hS] at e0
    by_cases hz0 : 0 ≤ z
    · obtain ⟨i, rfl⟩ : ∃ i : Nat, z = i := ⟨z.toNat, by omega⟩
      obtain ⟨hi, hp, ho, hsp⟩ := piece_next HP.out hz.symm
      have s1 := run_sto R i (Nat.le_of_lt hi)
      have s2 : ∀ w, (Instr.slice 9 (.string (bs R)) (some (.int .i64 ((i : Int) + 1))) none none).run Tryz.prog w = .ok (.string (bs (R.drop (i + 1)))) w := fun w => by
        have h := run_slf R (i + 1) hi w
        rw [Int.natCast_add] at h
        exact h
      rw [← hS] at s1 s2
      have hiL : i ≤ 2000000 := by omega
      have HI := Lib.hid (And.intro hi (And.intro hp (And.intro ho hsp)))
      have HS := Lib.hid hS
      clear hS hz hz1 hi hp ho hsp
      gi_wp2
      refine ⟨trivial, fun _ => by have := HN.out; omega, (callsIn_wide.2 (KI.out wz)).mono ?_⟩
      rintro e w' ⟨rfl, rfl⟩
      obtain ⟨fn, tmps, assign, body, hy, hRn⟩ := HY.out out.length wz HI.out.2.2.1 HD.out.1 trivial
      rw [HI.out.2.1] at hy
      gi_wp2
      refine ⟨fun _ => by have := HN.out; omega, hRn.mono ?_⟩
      rintro e W3 ⟨rfl, hJ3, hsz3, hkeep⟩
      have hb0 := HD.out.2.1.same (hkeep s (.inl rfl))
      have hb1 := HD.out.2.2.1.same (hkeep (s + 1) (.inr (.inl rfl)))
      have hb2 := HD.out.2.2.2.same (hkeep (s + 1 + 1) (.inr (.inr rfl)))
      have HT := Lib.hid (And.intro hJ3 (And.intro hb0 (And.intro hb1 hb2)))
      obtain ⟨d0, g0⟩ := hb0.cells
      obtain ⟨d1, _⟩ := hb1.cells
      rw [← HS.out] at d0
      clear hJ3 hb0 hb1 hb2 hkeep hy hRn e0 e1 e2 f0
      gi_wp2
      have hst := HT.out.2.1.put (.string (bs (R.drop (i + 1))))
      have hch : Chg (· = s) W3 (W3.setCell ⟨s, 0, none⟩ (.string (bs (R.drop (i + 1))))) := Chg.setCell W3 ⟨s, 0, none⟩ _
      go_roundw
      case rel => exact ⟨out ++ [R.take i], R.drop (i + 1), by rw [List.length_drop]; omega, HI.out.2.2.2, by rw [List.length_append]; exact HJ.out _ _ _ HT.out.1 hch, hst, HT.out.2.2.1.chg hch (by omega), HT.out.2.2.2.chg hch (by omega)⟩
      case measure =>
        rw [slen_eq hst, slen_eq HD.out.2.1, bs_size, bs_size, List.length_drop]
        have := HI.out.1
        omega
    · have hz2 : z = -1 := by omega
      subst hz2
      obtain ⟨hp, hT⟩ := piece_last HP.out hz.symm
      have HI := Lib.hid (And.intro hp hT)
      have HS := Lib.hid hS
      clear hS hz hz1 hp hT
      gi_wp2
      refine ⟨trivial, fun _ => by have := HN.out; omega, (callsIn_wide.2 (KI.out wz)).mono ?_⟩
      rintro e w' ⟨rfl, rfl⟩
      obtain ⟨fn, tmps, assign, body, hy, hRn⟩ := HY.out out.length wz (by rw [HI.out.2]; omega) HD.out.1 trivial
      rw [HI.out.1, ← HS.out] at hy
      gi_wp2
      refine ⟨fun _ => by have := HN.out; omega, hRn.mono ?_⟩
      rintro e W3 ⟨rfl, hJ3, hsz3, hkeep⟩
      have HT := Lib.hid hJ3
      clear hJ3 hkeep hy hRn e0 e1 e2 f0
      gi_wp2
      refine bodyPost_end (results_none rfl _ _ _) rfl ?_
      exact ⟨⟨_, rfl⟩, by rw [HI.out.2]; exact HT.out⟩
end Go.Proofs.YtcdbeepphdfipaaGreatDoor

namespace Go.Proofs.YtcdbeepphdfipaaGreatDoor
open Go.RowKit
set_option linter.unusedVariables false

theorem splitK_one (c : UInt8) : ∀ (k : Nat) (L : List UInt8), L.count c = k → Lib.splitK [c] 0 k L = splitB c L ∧ (splitB c L).length = k + 1
  | 0, L, h => by
    have hn : c ∉ L := List.count_eq_zero.1 h
    rw [splitB_none hn]
    exact ⟨rfl, rfl⟩
  | k + 1, L, h => by
    have hm : c ∈ L := by
      apply Classical.byContradiction
      intro hn
      rw [List.count_eq_zero.2 hn] at h
      omega
    have h1 : Lib.index L [c] = Lib.indexByte L c := Lib.index_one L c
    have h2 := Lib.indexByte_ge L c
    have h3 : Lib.indexByte L c ≠ -1 := fun e => notin_of (Lib.indexByte_none e) hm
    obtain ⟨i, hi⟩ : ∃ i : Nat, Lib.indexByte L c = i := ⟨(Lib.indexByte L c).toNat, by omega⟩
    obtain ⟨k1, k2, k3⟩ := cut_some hi
    have e : splitB c L = L.take i :: splitB c (L.drop (i + 1)) := by
      conv => lhs; rw [k2]
      exact splitB_app _ k3
    have hc : (L.drop (i + 1)).count c = k := by
      have h4 : L.count c = (L.take i ++ c :: L.drop (i + 1)).count c := by rw [← k2]
      rw [List.count_append, List.count_cons_self, List.count_eq_zero.2 k3] at h4
      omega
    obtain ⟨i1, i2⟩ := splitK_one c k (L.drop (i + 1)) hc
    have hne : ¬ (((i : Nat) : Int) == -1) = true := by simp
    rw [e, Lib.splitK, h1, hi, if_neg hne, Int.toNat_natCast, Nat.add_zero, List.length_singleton, i1, List.length_cons, i2]
    exact ⟨rfl, rfl⟩

/-- What strings.Split reads: internal/bytealg's MaxLen holds some number. -/
def MaxV (w : World) : Prop := ∃ m, w.cell? ⟨0, 0, none⟩ = some (.int .i64 m)
theorem MaxV.new {w w' : World} (h : MaxV w) (hn : New w w') : MaxV w' := by
  obtain ⟨m, hm⟩ := h
  exact ⟨m, hn.cellNew hm⟩

theorem split_any (L : List UInt8) (c : UInt8) (w : World) (hL : L.length ≤ 2000000) (hm : MaxV w) :
    Calls Tryz.prog 93 #[.string (bs L), .string ⟨#[c]⟩] w fun e w' => ∃ v, e = .returned v ∧ Own w' 9 v (strV (splitB c L)) ∧ From w.heap.size v ∧ New w w' := by
  obtain ⟨m, hm⟩ := hm
  have hcount : Lib.countB (bs L) ⟨#[c]⟩ = L.count c := by
    show Lib.count _ _ = _
    rw [bs_list]
    exact Lib.count_one c L
  obtain ⟨h1, h2⟩ := splitK_one c _ L rfl
  have hpieces : (Lib.splitB ⟨#[c]⟩ 0 (L.count c) (bs L)).map Value.string = strV (splitB c L) := by
    have h3 := Lib.splitB_data ⟨#[c]⟩ 0 (L.count c) (bs L)
    rw [bs_list] at h3
    rw [show (⟨#[c]⟩ : ByteArray).data.toList = [c] from rfl, h1] at h3
    rw [strV, ← h3, List.map_map]
    exact List.map_congr_left (fun b _ => rfl)
  refine (Tryz.strings_Split (bs L) ⟨#[c]⟩ m w (by rw [bs_size]; omega) hm (Nat.le_refl 1)).mono ?_
  rintro e w' ⟨rfl, rfl⟩
  rw [hcount, hpieces]
  have hl : (strV (splitB c L)).length = L.count c + 1 := by rw [strV, List.length_map, h2]
  refine ⟨_, rfl, .inr ⟨w.heap.size, L.count c + 1, (strV (splitB c L)).toArray, by rw [hl], heap_alloc_new w _, by rw [hl]; exact Nat.le_refl _, ?_, ?_, ?_⟩, From.new _ _ _, New.alloc _ _⟩
  · have := List.count_le_length (a := c) (l := L)
    unfold maxLen
    omega
  · rw [List.size_toArray, hl]; exact Nat.le_refl _
  · rw [List.take_of_length_le (by simp)]
end Go.Proofs.YtcdbeepphdfipaaGreatDoor

namespace Go.Proofs.YtcdbeepphdfipaaGreatDoor
open Go.RowKit
set_option linter.unusedVariables false

theorem bytes_conv (L : List UInt8) (w : World) : ∃ cap w', (∀ S, S = bs L → (convert 9 30 (.string S)).run Tryz.prog w = .ok (.slice (some ⟨w.heap.size, 0, none⟩) L.length cap) w') ∧ New w w' ∧ w'.heap.size = w.heap.size + 1 ∧
    ∀ i (h : i < L.length), w'.cell? ⟨w.heap.size, i, none⟩ = some (.int .u8 (L[i].toNat : Nat)) := by
  have h := run_bytes_of_string (P := Tryz.prog) w 9 30 5 (bs L) Tryz.underlying9 Tryz.underlying30 Tryz.underlying5
  rw [bs_size] at h
  refine ⟨_, _, (fun S hS => by rw [hS]; exact h), ?_, ?_, fun i hi => ?_⟩
  · exact (New.drew w).trans (New.alloc _ _)
  · rw [World.size_alloc]; rfl
  · show World.cell? _ ⟨w.drew.heap.size, i, none⟩ = _
    rw [World.cell?_alloc_mark]
    exact bytesRow_at (bs L) _ i hi
end Go.Proofs.YtcdbeepphdfipaaGreatDoor

namespace Go.Proofs.YtcdbeepphdfipaaGreatDoor
open Go.RowKit
set_option linter.unusedVariables false

theorem wpListIn_app {F : Fence} {n : Nat} {P : Program} {w : World} {ops : Array Oper} {rest : List Oper} {o : Oper} {a : Act} {Q : Exit → Act → World → Prop} (hgd : o.guard = none) (s x : Operand) (t : TypeId)
    (ho : o.op = .call { callee := .builtin .append, args := #[s, x], argTypes := #[t, t] })
    {e : TypeId} {z : Value} (T : OneTy P t e z) {v : Value} {xs : List Value} (hv : Own w e v xs) (hs : a.eval s = v)
    (so : Option Addr) (m c : Nat) (news : List Value) (hx : a.eval x = .slice so m c) (hl : news.length = m) (hnil : so = none → m = 0 ∧ c = 0)
    (hnews : ∀ ad, so = some ad → ∀ j u, news[j]? = some u → w.cell? (ad.add j) = some u) (h1 : ∀ u ∈ news, u.oneCell' = true) (hb : xs.length + m ≤ 1099511627776)
    (h : ∀ v' w', Own w' e v' (xs ++ news) → Chg (fun k => v.ownBlock = some k) w w' → (∀ g, v'.ownBlock = some g → v.ownBlock = some g ∨ w.heap.size ≤ g) → wpListIn F n P ops Q rest (a.put o.dst v') w') :
    wpListIn F n P ops Q (o :: rest) a w := by
  refine wpListIn_plain hgd fun K hK => ?_
  obtain ⟨v', w', hr, h2, h3, h4⟩ := run_app (P := P) w (ty := o.type) T hv so m c news hl hnil hnews h1 hb
  unfold Oper.wpIn
  refine ⟨?_, ?_⟩
  · simp [Oper.about, ho, resolve, Target.leads, Sem.run_pure]
  · rw [Oper.semAt_plain F _ _ (by rw [ho]; intro c hc'; cases hc')]
    unfold execOp
    simp only [ho, resolve, invoke, builtin, Sem.run_bind, Sem.run_pure, Result.andThen_ok, List.map_toArray, List.map_cons, List.map_nil, hs, hx, hr]
    exact hK _ _ (h v' w' h2 h3 h4)

theorem wpListIn_app1 {F : Fence} {n : Nat} {P : Program} {w : World} {ops : Array Oper} {rest : List Oper} {o : Oper} {a : Act} {Q : Exit → Act → World → Prop} (hgd : o.guard = none) (s x : Operand) (t : TypeId)
    (ho : o.op = .call { callee := .builtin .append, args := #[s, x], argTypes := #[t, t] })
    {e : TypeId} {z : Value} (T : OneTy P t e z) {v : Value} {xs : List Value} (w0 : World) (hv : Own w0 e v xs) (hs : a.eval s = v)
    (u : Value) (e' : TypeId) (hw : w = w0.alloc (.cells #[u] e')) (hx : a.eval x = .slice (some ⟨w0.heap.size, 0, none⟩) 1 1) (h1 : u.oneCell' = true) (hb : xs.length + 1 ≤ 1099511627776)
    (h : ∀ v' w', Own w' e v' (xs ++ [u]) → Chg (fun k => v.ownBlock = some k) w0 w' → (∀ g, v'.ownBlock = some g → v.ownBlock = some g ∨ w0.heap.size ≤ g) → wpListIn F n P ops Q rest (a.put o.dst v') w') :
    wpListIn F n P ops Q (o :: rest) a w := by
  subst hw
  refine wpListIn_app hgd s x t ho T (hv.new (New.alloc _ _)) hs (some ⟨w0.heap.size, 0, none⟩) 1 1 [u] hx rfl (by simp) ?_ (by simpa using h1) hb (fun v' w' k1 k2 k3 => h v' w' k1 (Chg.trans (New.alloc _ _) k2 (fun _ _ x => x.elim) (fun _ _ x => x)) (fun g hg => ?_))
  · intro ad had j y hj
    obtain rfl := Option.some.inj had
    match j, hj with
    | 0, hj =>
      simp at hj; subst hj
      rw [Addr.add_lit, Nat.zero_add, cell_of_heap (heap_alloc_new w0 _)]; rfl
  · rcases k3 g hg with k | k
    · exact .inl k
    · simp at k; exact .inr (by omega)
end Go.Proofs.YtcdbeepphdfipaaGreatDoor
