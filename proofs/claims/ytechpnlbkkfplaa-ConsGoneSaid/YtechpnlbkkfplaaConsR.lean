/- cons: rows of consumers told, turned, dropped. -/
import Derived.Test.YtechpnlbkkfplaaConsS
set_option linter.unusedVariables false
set_option linter.unusedSimpArgs false
namespace Go.Proofs.Ytechpnlbkkfplaa.Pr
open Go Go.Lift Go.Proofs

section
variable {K : KT} {L : List Asr} {h : Heap} {s : Addr} {C : List CN} {last : Int}

theorem row_loop {mp mo : Nat} {Pl : List (WH × Int)} {Fm O : List (Int × CN)} {t : SV} (q : CRel O last Pl Fm) (hl : O.length < 1099511627776)
    (hK : ∀ h' o, St (Ow 5 o ((O.map Prod.snd).flatMap cc) :: Ow 1 t ((O.map Prod.fst).map kkI) :: CnA s mp mo last Pl Fm L) h' → K (.slice o.1 o.2.1 o.2.2) h') :
    ∀ (fuel i : Nat) (o : SV) (h : Heap), O.length - i < fuel → i ≤ O.length → o.2.1 = i → St (Ow 5 o (((O.take i).map Prod.snd).flatMap cc) :: Ow 1 t ((O.map Prod.fst).map kkI) :: CnA s mp mo last Pl Fm L) h → cons_Cons_row.L1 K fuel (some s) o.1 o.2.1 o.2.2 t.1 t.2.1 t.2.2 ((t.2.1 : Nat) : Int) i h
  | 0, _, _, _, hf, _, _, _ => absurd hf (Nat.not_lt_zero _)
  | fuel + 1, i, o, h, hf, hi, ho, S => by
    have el : t.2.1 = O.length := by have := S.p1.ow.1; simp at this; omega
    unfold cons_Cons_row.L1
    by_cases hlt : i < O.length
    · refine ifT (by simp; omega) (ixV (n := i) (w := .int .i64 O[i].1) S.p1.sl rfl (by simp [hlt]) fun p ep cp => ⟨O[i].1, cp, s, rfl, some mo, S.p2.c 1 rfl, ?_⟩)
      refine St.lookup (k := O[i].1) klI umC zCon S.p4 ?_
      have eg : get? Fm O[i].1 = some O[i].2 := (q.of _ _).2 (List.getElem_mem hlt)
      simp only [Bool.false_eq_true, if_false]
      rw [eg]
      unfold bd
      refine ⟨cc O[i].2, rfl, cc O[i].2, bld_con _, ?_⟩
      have S1 : St (Bx (top h) (cc O[i].2) :: Ow 5 o (((O.take i).map Prod.snd).flatMap cc) :: Ow 1 t ((O.map Prod.fst).map kkI) :: CnA s mp mo last Pl Fm L) (al h (cc O[i].2).toArray T.api_Con) := S.al _ _
      have sa : Sl 5 (al h (cc O[i].2).toArray T.api_Con) (some (top h)) 1 (cc O[i].2) := ⟨rfl, S1.mem.1⟩
      refine S1.p1.app sl_con rfl u_slc (fun k e => by cases e) (Src.slice (n := 1) (c := 1) sa (cc_one _)) (by omega) (by omega) fun p' c' h' S' => ⟨_, _, _, rfl, ?_⟩
      rw [show IntKind.i64.wrap ((i : Int) + 1) = ((i + 1 : Nat) : Int) from wrapS (by omega) (by omega)]
      refine row_loop q hl hK fuel (i + 1) (p', o.2.1 + 1, c') h' (by omega) (by omega) (by show o.2.1 + 1 = i + 1; omega) ?_
      have e : O.take (i + 1) = O.take i ++ [O[i]] := by rw [List.take_add_one, List.getElem?_eq_getElem hlt]; rfl
      rw [e, List.map_append, List.flatMap_append, show ([O[i]].map Prod.snd).flatMap cc = cc O[i].2 by simp]
      exact S'.d1
    · refine ifF (by simp; omega) (hK h o ?_)
      rw [List.take_of_length_le (by omega)] at S
      exact S

theorem rowConW (S : St (CnW s C last :: L) h) (hl : C.length < 1099511627776) (h63 : last < 9223372036854775808) (hK : ∀ h' o, St (Ow 5 o (C.flatMap cc) :: CnW s C last :: L) h' → K (.slice o.1 o.2.1 o.2.2) h') : CallsH P F.cons_Cons_row [.pointer (some s)] K h := by
  obtain ⟨mp, mo, Pl, Fm, O, q, eC, S0⟩ := CnW.out S
  have hO : O.length = C.length := by rw [← eC, List.length_map]
  have hF : Fm.length = O.length := by have := q.permF.length_eq; simpa using this
  refine cons_Cons_row.ok ?_
  unfold cons_Cons_row.p0
  refine ⟨s, rfl, some mo, S0.c 1 rfl, ?_⟩
  refine keys.sortedKeys_map_int_api_Con_int_api_Con (vv := vvC) S0.p2 (fun k hk => ?_) (by omega) 0 fun h' t ks p o S' => ⟨_, _, _, rfl, O.length + 1, ?_⟩
  · have hm := q.permF.mem_iff.1 hk
    obtain ⟨x, hx, rfl⟩ := List.mem_map.1 hm
    have := q.pos x hx
    exact keyOf_i (by kernel_rfl) (by
      have e1 : IntKind.i64.min = -9223372036854775808 := by decide
      have e2 : IntKind.i64.max = 9223372036854775807 := by decide
      simp [Lit.wf, e1, e2]; omega)
  · have e : ks = O.map Prod.fst := perm_le (p.trans q.permF) (o.imp fun h => by simpa [Lift.Ord.le, sort_int.o] using h) q.up.keys_le
    subst e
    have S2 : St (Ow 1 t ((O.map Prod.fst).map kkI) :: CnA s mp mo last Pl Fm L) h' := S'.to
    refine row_loop q (by omega) (fun h2 o S3 => hK h2 o ?_) _ 0 (none, 0, 0) h' (by omega) (by omega) rfl (S2.owNil 5)
    rw [eC] at S3
    exact (CnW.inn q eC S3.d1.p3.p3.p3).p1

/-- A function of consumers that tells one by d, where B stays. -/
abbrev Tells (B : Asr) (d : CN → Bool) (f : Value) : Prop := ∀ (x : CN) (N : List Asr) (h : Heap) (K : KT), St (B :: N) h → (∀ h', St (B :: N) h' → K (.bool (d x)) h') → CallV P f [.agg (List.toArray (cc x))] K h

theorem index_loop {B : Asr} {d : CN → Bool} {f : Value} (hd : Tells B d f) {t : SV} {xs : List CN} (hl : xs.length < 1099511627776) (hN : (∀ x ∈ xs, d x = false) → ∀ h', St (B :: Ow 5 t (xs.flatMap cc) :: L) h' → K (.int .i64 (-1)) h')
    (hT : ∀ (i : Nat) (x : CN), xs[i]? = some x → d x = true → (∀ y ∈ xs.take i, d y = false) → ∀ h', St (B :: Ow 5 t (xs.flatMap cc) :: L) h' → K (.int .i64 i) h') :
    ∀ (fuel i : Nat) (h : Heap), xs.length - i < fuel → i ≤ xs.length → (∀ y ∈ xs.take i, d y = false) → St (B :: Ow 5 t (xs.flatMap cc) :: L) h → slices_IndexFunc_api_Con_api_Con.L1 K fuel t.1 t.2.1 t.2.2 f ((t.2.1 : Nat) : Int) i h
  | 0, _, _, hf, _, _, _ => absurd hf (Nat.not_lt_zero _)
  | fuel + 1, i, h, hf, hi, hno, S => by
    have el : t.2.1 = xs.length := by have := S.p1.ow.1; rw [cc_len] at this; omega
    unfold slices_IndexFunc_api_Con_api_Con.L1
    by_cases hlt : i < xs.length
    · have hx : xs[i]? = some xs[i] := List.getElem?_eq_getElem hlt
      refine ifT (by simp; omega) (ixS cc5 (by decide) S.p1.sl rfl hx ?_)
      refine hd _ _ _ _ S fun h1 S1 => ⟨_, rfl, ?_⟩
      cases hb : d xs[i] with
      | true => exact ifT rfl (hT i _ hx hb hno h1 S1)
      | false =>
        refine ifF rfl ?_
        rw [show IntKind.i64.wrap ((i : Int) + 1) = ((i + 1 : Nat) : Int) from wrapS (by omega) (by omega)]
        refine index_loop hd hl hN hT fuel (i + 1) h1 (by omega) (by omega) (fun y hy => ?_) S1
        rw [show xs.take (i + 1) = xs.take i ++ [xs[i]] by rw [List.take_add_one, hx]; rfl] at hy
        rcases List.mem_append.1 hy with hy | hy
        · exact hno y hy
        · simp at hy; subst hy; exact hb
    · refine ifF (by simp; omega) (hN (fun x hx => hno x ?_) h S)
      rw [List.take_of_length_le (by omega)]; exact hx

theorem delete_loop {B : Asr} {d : CN → Bool} {f : Value} (hd : Tells B d f) {t : SV} {xs : List CN} (hl : xs.length < 1099511627776)
    (hK : ∀ h' o, St (B :: Ow 5 o ((xs.filter fun x => !d x).flatMap cc) :: L) h' → K (.slice o.1 o.2.1 o.2.2) h') :
    ∀ (fuel j i : Nat) (ys : List CN) (h : Heap), xs.length - j < fuel → j ≤ xs.length → i ≤ j → ys.length = xs.length → ys.take i = (xs.take j).filter (fun x => !d x) → ys.drop j = xs.drop j → St (B :: Ow 5 t (ys.flatMap cc) :: L) h →
      slices_DeleteFunc_api_Con_api_Con.L2 K fuel t.1 t.2.1 t.2.2 f i j h
  | 0, _, _, _, _, hf, _, _, _, _, _, _ => absurd hf (Nat.not_lt_zero _)
  | fuel + 1, j, i, ys, h, hf, hj, hij, hy, e1, e2, S => by
    have el : t.2.1 = xs.length := by have := S.p1.ow.1; rw [cc_len, hy] at this; omega
    unfold slices_DeleteFunc_api_Con_api_Con.L2
    by_cases hlt : j < xs.length
    · have hx : ys[j]? = some xs[j] := by
        have := congrArg (fun l => l[0]?) e2
        simpa [List.getElem?_drop, hlt] using this
      refine ifT (by simp; omega) (ixS cc5 (by decide) S.p1.sl rfl hx ?_)
      unfold bd
      have S1 : St (Bx (top h) zc :: B :: Ow 5 t (ys.flatMap cc) :: L) (al h zc.toArray T.api_Con) := S.al zc T.api_Con
      refine ⟨rfl, S1.wrA (ws := cc xs[j]) rfl (cc_one _) fun h2 S2 => S2.rdA (n := 5) rfl ?_⟩
      refine hd _ _ _ _ S2.p1 fun h3 S3 => ⟨_, rfl, ?_⟩
      have et : xs.take (j + 1) = xs.take j ++ [xs[j]] := by rw [List.take_add_one, List.getElem?_eq_getElem hlt]; rfl
      have ed : ys.drop (j + 1) = xs.drop (j + 1) := by
        have := congrArg (List.drop 1) e2
        simpa [List.drop_drop, Nat.add_comm] using this
      cases hb : d xs[j] with
      | false =>
        refine ifT rfl (S3.p1.rdA (n := 5) rfl ?_)
        obtain ⟨a, a1, a2, a3, h4, a4, S4⟩ := S3.p2.owSetN cc5 cc_one (by decide) (i := (i : Int)) (n := i) rfl (by omega) xs[j]
        refine ⟨a, a1, a2, a3, rfl, h4, a4, ?_⟩
        unfold slices_DeleteFunc_api_Con_api_Con.j3
        rw [show IntKind.i64.wrap ((i : Int) + 1) = ((i + 1 : Nat) : Int) from wrapS (by omega) (by omega), show IntKind.i64.wrap ((j : Int) + 1) = ((j + 1 : Nat) : Int) from wrapS (by omega) (by omega)]
        refine delete_loop hd hl hK fuel (j + 1) (i + 1) (ys.set i xs[j]) h4 (by omega) (by omega) (by omega) (by simp [hy]) ?_ ?_ S4.p2.tl.p1
        · rw [et, List.filter_append, ← e1, List.filter_cons_of_pos (by simp [hb]), List.take_add_one, List.take_set_of_le (Nat.le_refl _)]
          simp [show i < ys.length by omega]
        · rw [List.drop_set_of_lt (by omega)]; exact ed
      | true =>
        refine ifF rfl ?_
        unfold slices_DeleteFunc_api_Con_api_Con.j3
        unfold bd
        rw [show IntKind.i64.wrap ((j : Int) + 1) = ((j + 1 : Nat) : Int) from wrapS (by omega) (by omega)]
        refine delete_loop hd hl hK fuel (j + 1) i ys h3 (by omega) (by omega) (by omega) hy ?_ ed S3.p1.tl
        rw [et, List.filter_append, ← e1, List.filter_cons_of_neg (by simp [hb]), List.filter_nil, List.append_nil]
    · have : j = xs.length := by omega
      subst this
      refine ifF (by simp; omega) ?_
      unfold slices_DeleteFunc_api_Con_api_Con.j1
      refine ⟨⟨by omega, by omega⟩, ?_⟩
      rw [Int.toNat_natCast]
      refine S.p1.clr sl_con rfl (by simp [one]) (by decide) (n := i) (by omega) fun h2 S2 => ?_
      unfold bd
      rw [slA_z]
      rw [List.take_of_length_le (Nat.le_refl _)] at e1
      have hc : t.2.1 ≤ t.2.2 := S.p1.ow.2.1
      refine ⟨⟨by omega, by omega⟩, hK h2 (t.1, i, t.2.2) ?_⟩
      rw [flat_take cc5, e1] at S2
      exact S2.p1

theorem deleteFuncS {B : Asr} {d : CN → Bool} {f : Value} (hd : Tells B d f) {t : SV} {xs : List CN} (S : St (B :: Ow 5 t (xs.flatMap cc) :: L) h) (hl : xs.length < 1099511627776)
    (hK : ∀ h' o, St (B :: Ow 5 o ((xs.filter fun x => !d x).flatMap cc) :: L) h' → K (.slice o.1 o.2.1 o.2.2) h') : CallsH P F.slices_DeleteFunc_api_Con_api_Con [.slice t.1 t.2.1 t.2.2, f] K h := by
  refine slices_DeleteFunc_api_Con_api_Con.ok ?_
  unfold slices_DeleteFunc_api_Con_api_Con.p0
  refine slices_IndexFunc_api_Con_api_Con.ok ?_
  unfold slices_IndexFunc_api_Con_api_Con.p0
  refine ⟨xs.length + 1, index_loop hd hl (fun hno h1 S1 => ⟨_, rfl, ifT rfl ?_⟩) (fun i x hx hb hno h1 S1 => ⟨_, rfl, ifF (by simp) ?_⟩) _ 0 h (by omega) (by omega) (by simp) S⟩
  · refine hK h1 t ?_
    rw [List.filter_eq_self.2 fun x hx => by rw [hno x hx]; rfl]
    exact S1
  · have hlt : i < xs.length := (List.getElem?_eq_some_iff.1 hx).1
    unfold bd
    rw [show IntKind.i64.wrap ((i : Int) + 1) = ((i + 1 : Nat) : Int) from wrapS (by omega) (by omega)]
    refine ⟨xs.length + 1, delete_loop hd hl hK _ (i + 1) i xs h1 (by omega) (by omega) (by omega) rfl ?_ rfl S1⟩
    rw [List.take_add_one, hx, List.filter_append, List.filter_eq_self.2 fun x hx => by rw [hno x hx]; rfl]
    simp [hb]

abbrev ofC (C : List CN) (q : List UInt8) : List CN := C.filter fun c => quC c == q
theorem of_1 (a : Addr) (q : List UInt8) : Tells (Bx a [.string (mkS q)]) (fun c => !(quC c == q)) (.func (.func F.cons_Cons_Of_1) #[] #[.pointer (some a)]) := fun x N h K S hK => by
  refine callV_fn (cons_Cons_Of_1.ok ?_)
  unfold cons_Cons_Of_1.p0
  unfold bd
  have S1 : St (Bx (top h) (cc x) :: Bx a [.string (mkS q)] :: N) (al h (cc x).toArray T.api_Con) := S.al _ _
  exact ⟨_, S1.c 3 rfl, _, S1.p1.c 0 rfl, hK _ S1.tl⟩
theorem ofConW {q : List UInt8} (S : St (CnW s C last :: L) h) (hl : C.length < 1099511627776) (h63 : last < 9223372036854775808) (hK : ∀ h' o, St (Ow 5 o ((ofC C q).flatMap cc) :: CnW s C last :: L) h' → K (.slice o.1 o.2.1 o.2.2) h') : CallsH P F.cons_Cons_Of [.pointer (some s), .string (mkS q)] K h := by
  refine cons_Cons_Of.ok ?_
  unfold cons_Cons_Of.p0
  unfold bd
  have S1 : St (Bx (top h) [.string (mkS q)] :: CnW s C last :: L) (al h #[.string (mkS q)] T.string) := S.al [.string (mkS q)] T.string
  refine rowConW (L := Bx (top h) [.string (mkS q)] :: L) S1.p1 hl h63 fun h2 o S2 => ⟨_, _, _, rfl, ?_⟩
  refine deleteFuncS (of_1 _ q) S2.p2 hl fun h3 o3 S3 => ⟨_, _, _, rfl, hK h3 o3 ?_⟩
  rw [show (C.filter fun x => !(!(quC x == q))) = ofC C q from List.filter_congr fun x _ => by simp] at S3
  exact S3.tl

/-! ### Turns -/
/-- A function of consumers that tells one by d, and turns B. -/
abbrev TellsN {σ : Type} (B : σ → Asr) (nx : σ → CN → σ) (d : CN → Bool) (f : Value) : Prop := ∀ (x : CN) (st : σ) (N : List Asr) (h : Heap) (K : KT), St (B st :: N) h → (∀ h', St (B (nx st x) :: N) h' → K (.bool (d x)) h') → CallV P f [.agg (List.toArray (cc x))] K h
theorem fun_con : P.underlying T.func_api_Con_bool = some (.func #[T.api_Con] #[T.bool] false) := by kernel_rfl

theorem turn_loop {σ : Type} {B : σ → Asr} {nx : σ → CN → σ} {d : CN → Bool} {fn : Fn} {fa fb : Array Value} (hd : TellsN B nx d (.func fn fa fb)) {st : σ} {t : SV} {t6 : Addr} {Q : List CN} (hQ : ∀ x ∈ Q, x ∈ C) (hl : Q.length < 1099511627776) (h0 : 0 ≤ last ∧ last < 4611686018427387904)
    (hN : (∀ x ∈ Q, d x = false) → ∀ h', St (B (Q.foldl nx st) :: CnW s C last :: L) h' → K (.tuple #[.agg (List.toArray zc), .bool false]) h')
    (hT : ∀ (i : Nat) (x : CN), Q[i]? = some x → d x = true → (∀ y ∈ Q.take i, d y = false) → ∀ h', St (B ((Q.take (i + 1)).foldl nx st) :: CnW s (outC C (keyC x) ++ [x]) (last + 1) :: L) h' → K (.tuple #[.agg (List.toArray (cc x)), .bool true]) h') :
    ∀ (fuel i : Nat) (h : Heap), Q.length - i < fuel → i ≤ Q.length → (∀ y ∈ Q.take i, d y = false) → St (B ((Q.take i).foldl nx st) :: Ow 5 t (Q.flatMap cc) :: Bx t6 zc :: CnW s C last :: L) h → cons_Cons_Turn.L2 K fuel (some s) (.func fn fa fb) t6 t.1 t.2.1 t.2.2 ((t.2.1 : Nat) : Int) i h
  | 0, _, _, hf, _, _, _ => absurd hf (Nat.not_lt_zero _)
  | fuel + 1, i, h, hf, hi, hno, S => by
    have el : t.2.1 = Q.length := by have := S.p1.ow.1; rw [cc_len] at this; omega
    unfold cons_Cons_Turn.L2
    by_cases hlt : i < Q.length
    · have hx : Q[i]? = some Q[i] := List.getElem?_eq_getElem hlt
      refine ifT (by simp; omega) (ixS cc5 (by decide) S.p1.sl rfl hx ?_)
      unfold bd
      have S1 : St (Bx (top h) zc :: B ((Q.take i).foldl nx st) :: Ow 5 t (Q.flatMap cc) :: Bx t6 zc :: CnW s C last :: L) (al h zc.toArray T.api_Con) := S.al zc T.api_Con
      refine ⟨rfl, S1.wrA (ws := cc Q[i]) rfl (cc_one _) fun h2 S2 => ?_⟩
      refine funcNilS fun_con ⟨_, rfl, ifF' rfl (S2.rdA (n := 5) rfl ?_)⟩
      refine hd _ _ _ _ _ S2.p1 fun h3 S3 => ⟨_, rfl, ?_⟩
      have et : Q.take (i + 1) = Q.take i ++ [Q[i]] := by rw [List.take_add_one, hx]; rfl
      have ef : nx ((Q.take i).foldl nx st) Q[i] = (Q.take (i + 1)).foldl nx st := by rw [et, List.foldl_append]; rfl
      rw [ef] at S3
      unfold cons_Cons_Turn.j3
      cases hb : d Q[i] with
      | true =>
        refine ifT rfl (S3.p1.rdA (n := 5) rfl ?_)
        refine keyConS S3 fun h4 S4 => ⟨wc (keyC Q[i]), rfl, ?_⟩
        refine dropConW (w := keyC Q[i]) S4.p4 fun h5 S5 => ⟨_, rfl, S5.p2.rdA (n := 5) rfl ?_⟩
        have hn : keyC Q[i] ∉ (outC C (keyC Q[i])).map keyC := fun hm => by
          obtain ⟨y, hy, e⟩ := List.mem_map.1 hm
          exact absurd e (of_decide_eq_true (List.mem_filter.1 hy).2)
        refine addConW (c := Q[i]) S5 h0 (fun hm => absurd hm hn) fun _ h6 S6 => ⟨_, rfl, S6.p2.rdA (n := 5) rfl ⟨rfl, ?_⟩⟩
        refine S6.p4.wrA (ws := cc Q[i]) rfl (cc_one _) fun h7 S7 => S7.rdA (n := 5) rfl ?_
        exact hT i _ hx hb hno h7 S7.p2.d1.p2.tl.p2.tl
      | false =>
        refine ifF rfl ?_
        rw [show IntKind.i64.wrap ((i : Int) + 1) = ((i + 1 : Nat) : Int) from wrapS (by omega) (by omega)]
        refine turn_loop hd hQ hl h0 hN hT fuel (i + 1) h3 (by omega) (by omega) (fun y hy => ?_) S3.p1.tl
        rw [et] at hy
        rcases List.mem_append.1 hy with hy | hy
        · exact hno y hy
        · simp at hy; subst hy; exact hb
    · refine ifF (by simp; omega) ?_
      unfold cons_Cons_Turn.j1
      rw [List.take_of_length_le (by omega)] at hno S
      refine ⟨rfl, S.p2.wrA (ws := zc) rfl (by simp [one]) fun h2 S2 => S2.rdA (n := 5) rfl (hN hno h2 S2.tl.p1.tl)⟩

theorem turnConW {σ : Type} {B : σ → Asr} {nx : σ → CN → σ} {d : CN → Bool} {fn : Fn} {fa fb : Array Value} (hd : TellsN B nx d (.func fn fa fb)) {st : σ} {q : List UInt8} (S : St (B st :: CnW s C last :: L) h) (hl : C.length < 1099511627776) (h0 : 0 ≤ last ∧ last < 4611686018427387904)
    (hN : (∀ x ∈ ofC C q, d x = false) → ∀ h', St (B ((ofC C q).foldl nx st) :: CnW s C last :: L) h' → K (.tuple #[.agg (List.toArray zc), .bool false]) h')
    (hT : ∀ (i : Nat) (x : CN), (ofC C q)[i]? = some x → d x = true → (∀ y ∈ (ofC C q).take i, d y = false) → ∀ h', St (B (((ofC C q).take (i + 1)).foldl nx st) :: CnW s (outC C (keyC x) ++ [x]) (last + 1) :: L) h' → K (.tuple #[.agg (List.toArray (cc x)), .bool true]) h') :
    CallsH P F.cons_Cons_Turn [.pointer (some s), .string (mkS q), .func fn fa fb] K h := by
  refine cons_Cons_Turn.ok ?_
  unfold cons_Cons_Turn.p0
  unfold bd
  have S1 : St (Bx (top h) zc :: B st :: CnW s C last :: L) (al h zc.toArray T.api_Con) := S.al zc T.api_Con
  have hlen : (C.filter fun c => quC c == q).length ≤ C.length := List.length_filter_le _ _
  refine ofConW (q := q) (L := Bx (top h) zc :: B st :: L) S1.p2 hl (by omega) fun h2 t S2 => ⟨_, _, _, rfl, (ofC C q).length + 1, ?_⟩
  refine turn_loop (Q := ofC C q) hd (fun x hx => (List.mem_filter.1 hx).1) (Nat.lt_of_le_of_lt hlen hl) h0 hN hT _ 0 h2 (Nat.lt_succ_self _) (Nat.zero_le _) (by simp) ?_
  exact S2.p3.p3.p2.p2

/-! ### Dropped -/
theorem dropAll_loop {B : Asr} {d : CN → Bool} {f : Value} (hd : Tells B d f) {t : SV} (nd : (C.map keyC).Nodup) (hl : C.length < 1099511627776) (hK : ∀ h', St (B :: CnW s (C.filter fun x => !d x) last :: L) h' → K (.tuple #[]) h') :
    ∀ (fuel i : Nat) (h : Heap), C.length - i < fuel → i ≤ C.length → St (B :: Ow 5 t (C.flatMap cc) :: CnW s ((C.take i).filter (fun x => !d x) ++ C.drop i) last :: L) h → cons_Cons_dropAll.L1 K fuel (some s) f t.1 t.2.1 t.2.2 ((t.2.1 : Nat) : Int) i h
  | 0, _, _, hf, _, _ => absurd hf (Nat.not_lt_zero _)
  | fuel + 1, i, h, hf, hi, S => by
    have el : t.2.1 = C.length := by have := S.p1.ow.1; rw [cc_len] at this; omega
    unfold cons_Cons_dropAll.L1
    by_cases hlt : i < C.length
    · have hx : C[i]? = some C[i] := List.getElem?_eq_getElem hlt
      refine ifT (by simp; omega) (ixS cc5 (by decide) S.p1.sl rfl hx ?_)
      unfold bd
      have S1 : St (Bx (top h) zc :: B :: Ow 5 t (C.flatMap cc) :: CnW s ((C.take i).filter (fun x => !d x) ++ C.drop i) last :: L) (al h zc.toArray T.api_Con) := S.al zc T.api_Con
      refine ⟨rfl, S1.wrA (ws := cc C[i]) rfl (cc_one _) fun h2 S2 => S2.rdA (n := 5) rfl ?_⟩
      refine hd _ _ _ _ S2.p1 fun h3 S3 => ⟨_, rfl, ?_⟩
      have et : C.take (i + 1) = C.take i ++ [C[i]] := by rw [List.take_add_one, hx]; rfl
      have ed : C.drop i = C[i] :: C.drop (i + 1) := List.drop_eq_getElem_cons hlt
      have next : ∀ h', St (B :: Ow 5 t (C.flatMap cc) :: CnW s ((C.take (i + 1)).filter (fun x => !d x) ++ C.drop (i + 1)) last :: L) h' → cons_Cons_dropAll.j2 K (cons_Cons_dropAll.L1 K fuel) (some s) f t.1 t.2.1 t.2.2 ((t.2.1 : Nat) : Int) i h' := fun h' S' => by
        unfold cons_Cons_dropAll.j2
        rw [show IntKind.i64.wrap ((i : Int) + 1) = ((i + 1 : Nat) : Int) from wrapS (by omega) (by omega)]
        exact dropAll_loop hd nd hl hK fuel (i + 1) h' (by omega) (by omega) S'
      cases hb : d C[i] with
      | true =>
        refine ifT rfl (S3.p1.rdA (n := 5) rfl ?_)
        refine keyConS S3 fun h4 S4 => ⟨wc (keyC C[i]), rfl, ?_⟩
        refine dropConW (w := keyC C[i]) S4.p3 fun h5 S5 => ⟨_, rfl, next h5 ?_⟩
        have e : outC ((C.take i).filter (fun x => !d x) ++ C.drop i) (keyC C[i]) = (C.take (i + 1)).filter (fun x => !d x) ++ C.drop (i + 1) := by
          have hne : ∀ y, y ∈ C.take i ∨ y ∈ C.drop (i + 1) → keyC y ≠ keyC C[i] := fun y hy e => by
            have nd2 := nd
            rw [List.nodup_iff_pairwise_ne, List.pairwise_map] at nd2
            rcases hy with hy | hy
            · obtain ⟨j, hj, rfl⟩ := List.mem_iff_getElem.1 hy
              simp only [List.length_take] at hj
              rw [List.getElem_take] at e
              exact List.pairwise_iff_getElem.1 nd2 j i (by omega) hlt (by omega) e
            · obtain ⟨j, hj, rfl⟩ := List.mem_iff_getElem.1 hy
              simp only [List.length_drop] at hj
              rw [List.getElem_drop] at e
              exact List.pairwise_iff_getElem.1 nd2 i (i + 1 + j) hlt (by omega) (by omega) e.symm
          unfold outC
          rw [et, ed, List.filter_append, List.filter_append, List.filter_cons_of_neg (by simp), List.filter_cons_of_neg (by simp [hb]), List.filter_nil, List.append_nil]
          congr 1
          · exact List.filter_eq_self.2 fun y hy => decide_eq_true (hne y (.inl (List.mem_filter.1 hy).1))
          · exact List.filter_eq_self.2 fun y hy => decide_eq_true (hne y (.inr hy))
        rw [e] at S5
        exact S5.p2.tl.p2.p2
      | false =>
        refine ifF rfl (next h3 ?_)
        rw [et, List.filter_append, List.filter_cons_of_pos (by simp [hb]), List.filter_nil, List.append_assoc, List.singleton_append, ← ed]
        exact S3.p1.tl
    · refine ifF (by simp; omega) (hK h ?_)
      rw [List.take_of_length_le (by omega), List.drop_eq_nil_of_le (by omega), List.append_nil] at S
      exact S.p1.tl

theorem dropAllW {B : Asr} {d : CN → Bool} {f : Value} (hd : Tells B d f) (S : St (B :: CnW s C last :: L) h) (hl : C.length < 1099511627776) (h63 : last < 9223372036854775808) (hK : ∀ h', St (B :: CnW s (C.filter fun x => !d x) last :: L) h' → K (.tuple #[]) h') :
    CallsH P F.cons_Cons_dropAll [.pointer (some s), f] K h := by
  refine cons_Cons_dropAll.ok ?_
  unfold cons_Cons_dropAll.p0
  have nd := CnW.nd S.p1
  refine rowConW (L := B :: L) S.p1 hl h63 fun h2 t S2 => ⟨_, _, _, rfl, C.length + 1, ?_⟩
  exact dropAll_loop hd nd hl hK _ 0 h2 (by omega) (by omega) (by simpa using S2.p2)

theorem chan_1 (B : Asr) (a b : Addr) (x y : Int) : ∀ (z : CN) (N : List Asr) (h : Heap) (K : KT), St (Bx a [.int .i64 x] :: Bx b [.int .i64 y] :: N) h → (∀ h', St (Bx a [.int .i64 x] :: Bx b [.int .i64 y] :: N) h' → K (.bool (z.1 == x && z.2.1 == y)) h') → CallV P (.func (.func F.cons_Cons_DropChan_1) #[] #[.pointer (some a), .pointer (some b)]) [.agg (List.toArray (cc z))] K h := fun z N h K S hK => by
  refine callV_fn (cons_Cons_DropChan_1.ok ?_)
  unfold cons_Cons_DropChan_1.p0
  unfold bd
  have S1 : St (Bx (top h) (cc z) :: Bx a [.int .i64 x] :: Bx b [.int .i64 y] :: N) (al h (cc z).toArray T.api_Con) := S.al _ _
  refine ⟨_, S1.c 0 rfl, _, S1.p1.c 0 rfl, ?_⟩
  have k := hK _ S1.tl
  cases e : (z.1 == x) with
  | true =>
    rw [e] at k
    exact ifT rfl ⟨_, S1.c 1 rfl, _, S1.p2.c 0 rfl, k⟩
  | false =>
    rw [e] at k
    exact ifF rfl k
theorem dropChanW {x y : Int} (S : St (CnW s C last :: L) h) (hl : C.length < 1099511627776) (h63 : last < 9223372036854775808) (hK : ∀ h', St (CnW s (C.filter fun c => !(c.1 == x && c.2.1 == y)) last :: L) h' → K (.tuple #[]) h') :
    CallsH P F.cons_Cons_DropChan [.pointer (some s), .int .i64 x, .int .i64 y] K h := by
  refine cons_Cons_DropChan.ok ?_
  unfold cons_Cons_DropChan.p0
  unfold bd
  have S1 : St (Bx (top h) [.int .i64 x] :: CnW s C last :: L) (al h #[.int .i64 x] T.int) := S.al [.int .i64 x] T.int
  generalize al h #[.int .i64 x] T.int = h1 at *
  have S2 : St (Bx (top h1) [.int .i64 y] :: Bx (top h) [.int .i64 x] :: CnW s C last :: L) (al h1 #[.int .i64 y] T.int) := S1.al [.int .i64 y] T.int
  refine dropAllW (B := stars [Bx (top h) [.int .i64 x], Bx (top h1) [.int .i64 y]]) (d := fun c => c.1 == x && c.2.1 == y) (fun z N h K S hK => ?_) (St.close (As := [Bx (top h) [.int .i64 x], Bx (top h1) [.int .i64 y]]) S2.p1) hl h63 fun h3 S3 => ⟨rfl, hK h3 (St.open S3).tl.tl⟩
  exact chan_1 (fun _ _ => True) _ _ x y z N h K (St.open S) fun h' S' => hK h' (St.close (As := [Bx _ [.int .i64 x], Bx _ [.int .i64 y]]) S')
theorem queue_1 (a : Addr) (q : List UInt8) : Tells (Bx a [.string (mkS q)]) (fun c => quC c == q) (.func (.func F.cons_Cons_DropQueue_1) #[] #[.pointer (some a)]) := fun x N h K S hK => by
  refine callV_fn (cons_Cons_DropQueue_1.ok ?_)
  unfold cons_Cons_DropQueue_1.p0
  unfold bd
  have S1 : St (Bx (top h) (cc x) :: Bx a [.string (mkS q)] :: N) (al h (cc x).toArray T.api_Con) := S.al _ _
  exact ⟨_, S1.c 3 rfl, _, S1.p1.c 0 rfl, hK _ S1.tl⟩
theorem dropQueueW {q : List UInt8} (S : St (CnW s C last :: L) h) (hl : C.length < 1099511627776) (h63 : last < 9223372036854775808) (hK : ∀ h', St (CnW s (C.filter fun c => !(quC c == q)) last :: L) h' → K (.tuple #[]) h') :
    CallsH P F.cons_Cons_DropQueue [.pointer (some s), .string (mkS q)] K h := by
  refine cons_Cons_DropQueue.ok ?_
  unfold cons_Cons_DropQueue.p0
  unfold bd
  have S1 : St (Bx (top h) [.string (mkS q)] :: CnW s C last :: L) (al h #[.string (mkS q)] T.string) := S.al [.string (mkS q)] T.string
  exact dropAllW (queue_1 _ q) S1 hl h63 fun h3 S3 => ⟨rfl, hK h3 S3.tl⟩
theorem dropTagW {x y : Int} {g : List UInt8} (S : St (CnW s C last :: L) h) (hK : ∀ h', St (CnW s (outC C (x, y, g)) last :: L) h' → K (.bool (decide ((x, y, g) ∈ C.map keyC))) h') :
    CallsH P F.cons_Cons_Drop [.pointer (some s), .int .i64 x, .int .i64 y, .string (mkS g)] K h := by
  refine cons_Cons_Drop.ok ?_
  unfold cons_Cons_Drop.p0
  exact dropConW (w := (x, y, g)) S fun h' S' => ⟨_, rfl, hK h' S'⟩
end
end Go.Proofs.Ytechpnlbkkfplaa.Pr
