/- The document's tables over the heap. -/
import Derived.Test.YtpfnfmlibpoleaaRefTP
import Derived.Test.YtpfnfmlibpoleaaRefOcts
import Derived.Test.YtpfnfmlibpoleaaMethR
set_option linter.unusedVariables false
set_option linter.unusedSimpArgs false
namespace Go.Proofs.Ytpfnfmlibpoleaa.Pr
open Go Go.Lift Go.Proofs

section
variable {K : KT} {L R : List Asr} {h : Heap}

theorem rputS {s : SV} {n v : Nat} {bs : Oct} (S : St L h) (sl : Sl 1 h s.1 s.2.1 (u8s bs)) (hb : bs.length < 1099511627776) (h8 : n ≤ 8)
    (hK : ∀ p l c h', St (Ow 1 (p, l, c) (u8s (bs ++ octsN n v)) :: L) h' → K (.slice p l c) h') : CallsH P F.waybillref1_Put [.slice s.1 s.2.1 s.2.2, .int .i64 n, .int .u64 v] K h :=
  Put.spec sl hb h8 fun p l c h' o f k => hK p l c h' (S.owNew o f k)
theorem rrshortS {s : SV} {bs cs : Oct} (S : St L h) (sl : Sl 1 h s.1 s.2.1 (u8s bs)) (hb : bs.length < 1099511627776) (hc : cs.length < 1099511627776)
    (hK : ∀ p l c h', St (Ow 1 (p, l, c) (u8s (bs ++ octsN 1 cs.length ++ cs)) :: L) h' → K (.slice p l c) h') : CallsH P F.waybillref1_Short [.slice s.1 s.2.1 s.2.2, .string (mkS cs)] K h :=
  refShort.spec sl hb hc fun p l c h' o f k => hK p l c h' (S.owNew o f k)
theorem rrlongS {s t : SV} {bs cs : Oct} (S : St L h) (sl : Sl 1 h s.1 s.2.1 (u8s bs)) (tl : Sl 1 h t.1 t.2.1 (u8s cs)) (hb : bs.length < 1099511627776) (hc : cs.length < 1099511627776)
    (hK : ∀ p l c h', St (Ow 1 (p, l, c) (u8s (bs ++ octsN 4 cs.length ++ cs)) :: L) h' → K (.slice p l c) h') : CallsH P F.waybillref1_Long [.slice s.1 s.2.1 s.2.2, .slice t.1 t.2.1 t.2.2] K h :=
  refLong.spec sl tl hb hc fun p l c h' o f k => hK p l c h' (S.owNew o f k)

theorem textAt_ne {bs t : Oct} {a n e : Nat} (h : textAt bs a n = some (t, e)) : t ≠ [] → bs ≠ [] := by
  intro ht hb
  subst hb
  unfold textAt at h
  split at h
  · cases h
  · split at h
    · simp at h; exact ht h.1
    · cases h

theorem rtextS {s : SV} {bs : Oct} {a n : Nat} (S : St L h) [m : In (fun b => Im 1 s (u8s b)) L bs] (hb : bs.length < 1099511627776) (ha : a ≤ bs.length) (hn : n ≤ 8)
    (h1 : textAt bs a n = none → K (.tuple #[.slice none 0 0, .int .i64 0, .bool false]) h)
    (h2 : ∀ q m d t e, textAt bs a n = some (t, e) → St (Im 1 (q, m, d) (u8s t) :: L) h → K (.tuple #[.slice q m d, .int .i64 (e : Nat), .bool true]) h) :
    CallsH P F.waybillref1_Text [.slice s.1 s.2.1 s.2.2, .int .i64 a, .int .i64 n] K h := by
  have sl := isl8 S (s := s) (bs := bs)
  refine refText.spec sl.1 sl.2 hb ha hn h1 fun q m' d t e he hs hmd hbl => h2 q m' d t e he (S.imSub m.mem (fun a' e' hv => ⟨?_, ?_⟩) hs hmd)
  · intro hb0
    have : bs = [] := by simpa [u8s] using hb0
    exact textAt_ne he (by intro e2; subst e2; exact hv rfl) this
  · exact hbl a' e'

/-- A field of a table, where it lies. -/
theorem tbElem {B : Nat → Prop} {s : SV} {fs : List PF} {i : Nat} (S : St L h) [m : In (Tb B s) L fs] (hi : i < fs.length) : ∃ (a : Addr) (t : SV), s.1 = some a ∧ rdC h (a.add (i * 5)) 0 5 = some (fcells (fs[i], t)) ∧
    (∀ k v, (fcells (fs[i], t))[k]? = some v → hcell h ((a.add (i * 5)).add k) = some v) ∧ St (Tb B t fs[i].t :: L) h := by
  obtain ⟨ts, t1, t2, t3, t4, t5⟩ := tbAt S (B := B) (s := s) (fs := fs)
  have hit : i < ts.length := by omega
  have hx : (fs.zip ts)[i]? = some (fs[i], ts[i]) := by rw [List.getElem?_eq_getElem (by rw [List.length_zip]; omega), List.getElem_zip]
  obtain ⟨a, e, ha, hl⟩ := Sl.elem fcells_len t2 (by decide) hx
  exact ⟨a, ts[i], e, ha.rd rfl, fun k v hv => ha.get hv, t5 i fs[i] ts[i] (List.getElem?_eq_getElem hi) (List.getElem?_eq_getElem hit)⟩

theorem nilB (t : SV) (fs : List PF) (e : t.2.1 = fs.length) : ((((t.2.1 : Nat) : Int)) == 0) = decide (fs = []) := by
  rw [Bool.eq_iff_iff, beq_iff_eq, decide_eq_true_eq, ← List.length_eq_zero_iff, ← e]
  omega
theorem strB (s : Oct) : (s == ([] : Oct)) = decide (s = []) := by
  cases s <;> rfl

theorem fieldOkS {B : Nat → Prop} {t : SV} {f : PF} (S : St L h) [In (Tb B t) L f.t] (hK : ∀ h', St L h' → K (.bool (fieldOkP f)) h') : CallsH P F.waybillref1_fieldOk [.agg (List.toArray (fcells (f, t)))] K h := by
  refine waybillref1_fieldOk.ok ?_
  unfold waybillref1_fieldOk.p0
  have S1 := S.al (fcells (f, t)) T.api_Field
  have hK1 := hK _ S1.tl
  have lt := tbLen S (B := B) (s := t)
  simp only [bd]
  generalize al h _ _ = h1 at *
  generalize top h = a at *
  unfold fcells at S1
  simp only [rdT (S1.rc a 0 rfl)]
  have j1 : ∀ b : Bool, (b = false → 1 ≤ f.name.length ∧ f.name.length ≤ 128) → (b = true → ¬ (1 ≤ f.name.length ∧ f.name.length ≤ 128)) → waybillref1_fieldOk.j1 K a b h1 := by
    intro b hb1 hb2
    unfold waybillref1_fieldOk.j1
    cases b with
    | true => exact ifT rfl (by rw [fieldOkP, decide_eq_false (hb2 rfl), Bool.false_and] at hK1; exact hK1)
    | false =>
      rw [fieldOkP, decide_eq_true (hb1 rfl), Bool.true_and] at hK1
      refine ifF rfl ?_
      have e116 := eb8 f.kind 116
      have e73 := eb8 f.kind 73
      have e108 := eb8 f.kind 108
      have e83 := eb8 f.kind 83
      have e70 := eb8 f.kind 70
      have e86 := eb8 f.kind 86
      simp only [show ((116 : UInt8).toNat : Int) = 116 from rfl, show ((73 : UInt8).toNat : Int) = 73 from rfl, show ((108 : UInt8).toNat : Int) = 108 from rfl, show ((83 : UInt8).toNat : Int) = 83 from rfl, show ((70 : UInt8).toNat : Int) = 70 from rfl, show ((86 : UInt8).toNat : Int) = 86 from rfl] at e116 e73 e108 e83 e70 e86
      simp only [rdN (S1.rc a 1 rfl), rdN (S1.rc a 2 rfl), rdT (S1.rc a 3 rfl), rdS (S1.rc a 4 rfl), bd, e116, e73, e108, e83, e70, e86, nilB t f.t lt, strB]
      have fin : ∀ b : Bool, b = (if f.kind = 116 then decide ((f.n = 0 ∨ f.n = 1) ∧ f.s = [] ∧ f.t = [])
          else if f.kind = 73 then decide (-2147483648 ≤ f.n ∧ f.n < 2147483648 ∧ f.s = [] ∧ f.t = [])
          else if f.kind = 108 then decide (f.s = [] ∧ f.t = [])
          else if f.kind = 83 then decide (f.n = 0 ∧ f.t = [])
          else if f.kind = 70 then decide (f.n = 0 ∧ f.s = [])
          else if f.kind = 86 then decide (f.n = 0 ∧ f.s = [] ∧ f.t = [])
          else false) → K (.bool b) h1 := fun b e => by rw [e]; exact hK1
      clear hK1 hK S1 S lt
      repeat' first | with_reducible refine And.intro ?_ ?_ | with_reducible intro _
      all_goals simp only [decide_eq_true_eq, decide_eq_false_iff_not, beq_iff_eq, beq_eq_false_iff_ne, ne_eq] at *
      all_goals
        refine fin _ ?_
        clear fin
        first
          | (simp [*]; done)
          | (simp [*]; omega)
          | (rw [Bool.eq_iff_iff]; simp [*]; done)
  by_cases e1 : f.name.length < 1
  · exact ifT' (by simp; omega) (j1 true (fun e => by cases e) (fun _ => by omega))
  · refine ifF' (by simp; omega) ?_
    by_cases e2 : f.name.length > 128
    · rw [decide_eq_true (by omega)]; exact j1 true (fun e => by cases e) (fun _ => by omega)
    · rw [decide_eq_false (by omega)]; exact j1 false (fun _ => by omega) (fun e => by cases e)
end

theorem wtD_len {d : Nat} {fs : List PF} : fs.length ≤ wtD (d + 1) fs := by
  show _ ≤ (fs.map fun f => 1 + f.name.length + f.s.length + wtD d f.t).sum
  induction fs with
  | nil => simp
  | cons x r ih => simp only [List.length_cons, List.map_cons, List.sum_cons]; omega

/-! ### Which may be -/

def FormC (d : Nat) : Prop := ∀ {K : KT} {L : List Asr} {h : Heap} {B : Nat → Prop} {s : SV} {fs : List PF} (S : St L h) [In (Tb B s) L fs] (hw : wtD d fs ≤ 1073741824) (hK : ∀ h', St L h' → K (.bool (formedP d fs)) h'),
  CallsH P F.waybillref1_formed [.slice s.1 s.2.1 s.2.2, .int .i64 (9 - (d : Int))] K h

section
variable {K : KT} {L R : List Asr} {h : Heap}

theorem formed_inner {R1 : OA → Nat → Nat → Int → Int → Heap → Prop} {B : Nat → Prop} {s : SV} {fs : List PF} {i : Nat} {deep : Int} (hi : i < fs.length) (hl : fs.length ≤ 1073741824) (S : St L h) [In (Tb B s) L fs] (hdup : fs[i].name ∈ (fs.take i).map PF.name → K (.bool false) h)
    (hno : fs[i].name ∉ (fs.take i).map PF.name → waybillref1_formed.j2 K R1 s.1 s.2.1 s.2.2 deep i h) : ∀ (fuel k : Nat), i - k < fuel → k ≤ i → fs[i].name ∉ (fs.take k).map PF.name → waybillref1_formed.L4 K R1 fuel s.1 s.2.1 s.2.2 deep i k h
  | 0, _, hf, _, _ => absurd hf (Nat.not_lt_zero _)
  | fuel + 1, k, hf, hk, hn => by
    have lt := tbLen S (B := B) (s := s)
    unfold waybillref1_formed.L4
    by_cases hlt : k < i
    · refine ifT (by simp; omega) ?_
      have hk' : k < fs.length := by omega
      obtain ⟨a, t, e, r, g, _⟩ := tbElem S (B := B) (s := s) hi
      obtain ⟨a', t', e', r', g', _⟩ := tbElem S (B := B) (s := s) hk'
      obtain rfl : a' = a := by rw [e] at e'; cases e'; rfl
      refine ⟨a', e, by omega, by omega, a', e, by omega, by omega, ?_⟩
      simp only [Int.toNat_natCast, rdT (g 0 _ rfl), rdT (g' 0 _ rfl)]
      have em : fs[k].name ∈ (fs.take i).map PF.name := List.mem_map.2 ⟨fs[k], by rw [List.mem_take_iff_getElem]; exact ⟨k, by omega, rfl⟩, rfl⟩
      by_cases en : fs[k].name = fs[i].name
      · exact ifT (by simp [en]) (hdup (by rw [← en]; exact em))
      · refine ifF (by simp [en]) ?_
        simp only [bd]
        rw [wsucc (by omega)]
        refine formed_inner (B := B) hi hl S hdup hno fuel (k + 1) (by omega) (by omega) ?_
        rw [List.take_succ_eq_append_getElem hk', List.map_append]
        simp only [List.mem_append, not_or, List.map_cons, List.map_nil, List.mem_singleton]
        exact ⟨hn, fun e => en e.symm⟩
    · refine ifF (by simp; omega) (hno ?_)
      have : k = i := by omega
      subst this
      exact hn

theorem formed_loop {d : Nat} (ih : FormC d) (hd : d ≤ 8) {B : Nat → Prop} {s : SV} {fs : List PF} {res : Bool} (hw : wtD (d + 1) fs ≤ 1073741824) [In (Tb B s) L fs] (hK : ∀ h', St L h' → K (.bool res) h') :
    ∀ (fuel i : Nat) (h : Heap), fs.length - i < fuel → i ≤ fs.length → formGo (formedP d) (fs.drop i) ((fs.take i).map PF.name) = res → St L h → waybillref1_formed.L1 K fuel s.1 s.2.1 s.2.2 (8 - (d : Int)) i h
  | 0, _, _, hf, _, _, _ => absurd hf (Nat.not_lt_zero _)
  | fuel + 1, i, h, hf, hi, hg, S => by
    have lt := tbLen S (B := B) (s := s)
    have hl := wtD_len (d := d) (fs := fs)
    unfold waybillref1_formed.L1
    by_cases hlt : i < fs.length
    · refine ifT (by simp; omega) ?_
      obtain ⟨a, t, e, r, g, S1⟩ := tbElem S (B := B) (s := s) hlt
      refine ⟨a, e, by omega, by omega, ?_⟩
      simp only [Int.toNat_natCast, rdC' r]
      have hdrop : fs.drop i = fs[i] :: fs.drop (i + 1) := List.drop_eq_getElem_cons hlt
      rw [hdrop] at hg
      unfold formGo at hg
      refine fieldOkS (B := B) S1 fun h1 S2 => ⟨_, rfl, ?_⟩
      have S3 := S2.tl
      clear g r S1
      cases hok : fieldOkP fs[i] with
      | false =>
        rw [hok] at hg
        simp only [Bool.false_and] at hg
        subst hg
        refine ifT' rfl ?_
        unfold waybillref1_formed.j3
        exact ifT rfl (hK h1 S3)
      | true =>
        rw [hok] at hg
        simp only [Bool.true_and] at hg
        refine ifF' rfl ?_
        obtain ⟨a', t', e', r', g', S4⟩ := tbElem S3 (B := B) (s := s) hlt
        have e70 := eb8 fs[i].kind 70
        simp only [show ((70 : UInt8).toNat : Int) = 70 from rfl] at e70
        refine ⟨a', e', by omega, by omega, ?_⟩
        simp only [Int.toNat_natCast, rdN (g' 1 _ rfl), e70]
        have go : ∀ h2, St L h2 → (fs[i].kind != 70 || formedP d fs[i].t) = true → waybillref1_formed.j3 K (waybillref1_formed.L1 K fuel) s.1 s.2.1 s.2.2 (8 - (d : Int)) i false h2 := by
          intro h2 S5 hsub
          rw [hsub, Bool.true_and] at hg
          unfold waybillref1_formed.j3
          refine ifF rfl ⟨_, formed_inner (B := B) hlt (by omega) S5 (fun hd => ?_) (fun hn => ?_) _ 0 (Nat.lt_succ_self _) (Nat.zero_le _) (by simp)⟩
          · rw [decide_eq_false (by simpa using hd), Bool.false_and] at hg
            subst hg
            exact hK h2 S5
          · rw [decide_eq_true hn, Bool.true_and] at hg
            unfold waybillref1_formed.j2
            simp only [bd]
            rw [wsucc (by omega)]
            refine formed_loop (B := B) ih hd hw hK fuel (i + 1) h2 (by omega) (by omega) ?_ S5
            rw [List.take_succ_eq_append_getElem hlt, List.map_append]
            exact hg
        by_cases k70 : fs[i].kind = 70
        · refine ifT (by simp [k70]) ⟨a', e', by omega, by omega, ?_⟩
          have ew : IntKind.i64.wrap ((8 : Int) - (d : Int) + 1) = 9 - (d : Int) := by rw [wrapI (by omega) (by omega)]; omega
          rw [ew]
          have hp := wtD_part (d := d) (List.getElem_mem hlt)
          simp only [rdS (g' 4 _ rfl)]
          refine ih (B := B) (s := t') S4 (by omega) fun h2 S5 => ⟨_, rfl, ?_⟩
          cases hf2 : formedP d fs[i].t with
          | true => exact go h2 S5.tl (by simp [hf2])
          | false =>
            rw [hf2, k70] at hg
            have : res = false := by rw [← hg]; rfl
            subst this
            unfold waybillref1_formed.j3
            exact ifT rfl (hK h2 S5.tl)
        · exact ifF (by simp [k70]) (go h1 S3 (by simp [k70]))
    · refine ifF (by simp; omega) ?_
      rw [List.drop_eq_nil_of_le (by omega)] at hg
      unfold formGo at hg
      subst hg
      exact hK h S
end

theorem formed_spec : ∀ d : Nat, d ≤ 9 → FormC d
  | 0, _ => by
    intro S _ hw hK
    refine waybillref1_formed.ok ?_
    unfold waybillref1_formed.p0
    exact ifT (by decide) (hK _ S)
  | d + 1, hd => by
    intro S _ hw hK; rename_i K L h B s fs _
    have ih : FormC d := formed_spec d (by omega)
    refine waybillref1_formed.ok ?_
    unfold waybillref1_formed.p0
    have e : (9 : Int) - ((d + 1 : Nat) : Int) = 8 - (d : Int) := by omega
    rw [e]
    refine ifF (by simp; omega) ⟨fs.length + 1, ?_⟩
    exact formed_loop (B := B) ih (by omega) hw hK _ 0 h (by omega) (Nat.zero_le _) rfl S

/-! ### What they say -/

def RRowsC (d : Nat) : Prop := ∀ {K : KT} {L : List Asr} {h : Heap} {B : Nat → Prop} {s : SV} {fs : List PF} (S : St L h) [In (Tb B s) L fs] (hf : formedP d fs = true) (hw : wtD d fs ≤ 67108864) (hK : ∀ p l c h', St (Ow 1 (p, l, c) (u8s (rowsR d fs)) :: L) h' → K (.slice p l c) h'),
  CallsH P F.waybillref1_rows [.slice s.1 s.2.1 s.2.2] K h

section
variable {K : KT} {L R : List Asr} {h : Heap}

/-- An octet behind others, out of a row of its own. -/
theorem app1S {o : SV} {bs : Oct} {x : UInt8} {Q : Value → Heap → Prop} (S : St (Ow 1 o (u8s bs) :: L) h) (hl : bs.length < 1099511627776) (hQ : ∀ p l c h', St (Ow 1 (p, l, c) (u8s (bs ++ [x])) :: L) h' → Q (.slice p l c) h') :
    SemH P (Builtin.append_ #[T.sl_uint8, T.sl_uint8] T.sl_uint8 #[.slice o.1 o.2.1 o.2.2, .slice (some (top h)) 1 1]) Q (al h #[.int .u8 (x.toNat : Int)] T.uint8) := by
  have S1 := S.al (u8s [x]) T.uint8
  have src : Src P 1 (al h #[.int .u8 (x.toNat : Int)] T.uint8) (.slice (some (top h)) 1 1) 1 (u8s [x]) := Src.slice (n := 1) ⟨rfl, S1.mem.1⟩ (u8s_one _)
  exact appS (s := o) (bs := bs) (ws := [x]) S1 src (by simp; omega) fun p l c h' S2 => hQ p l c h' S2.d1

theorem rrows_loop {d : Nat} (ih : RRowsC d) {B : Nat → Prop} {s : SV} {fs : List PF} (hf : formedP (d + 1) fs = true) (hw : wtD (d + 1) fs ≤ 67108864) [In (Tb B s) L fs] (hK : ∀ p l c h', St (Ow 1 (p, l, c) (u8s (rowsR (d + 1) fs)) :: L) h' → K (.slice p l c) h') :
    ∀ (fuel i : Nat) (o : SV) (h : Heap), fs.length - i < fuel → i ≤ fs.length → St (Ow 1 o (u8s (rowsR (d + 1) (fs.take i))) :: L) h → waybillref1_rows.L1 K fuel s.1 s.2.1 s.2.2 o.1 o.2.1 o.2.2 i h
  | 0, _, _, _, hfu, _, _ => absurd hfu (Nat.not_lt_zero _)
  | fuel + 1, i, o, h, hfu, hi, S => by
    have lt := tbLen S (B := B) (s := s)
    have hl := wtD_len (d := d) (fs := fs)
    unfold waybillref1_rows.L1
    by_cases hlt : i < fs.length
    · refine ifT (by simp; omega) ?_
      have hmem : fs[i] ∈ fs := List.getElem_mem hlt
      have hok := formGo_mem (show formGo (formedP d) fs [] = true from hf) fs[i] hmem
      have hp := wtD_part (d := d) hmem
      have hpre := rowsR_len (d + 1) (fs.take i)
      have hwt := wtD_take (d := d + 1) fs i
      have next : ∀ p l c h', St (Ow 1 (p, l, c) (u8s (rowsR (d + 1) (fs.take i) ++ rowR (rowsR d) fs[i])) :: L) h' → waybillref1_rows.j2 K (waybillref1_rows.L1 K fuel) s.1 s.2.1 s.2.2 p l c i h' := by
        intro p l c h' S'
        unfold waybillref1_rows.j2
        simp only [bd]
        rw [wsucc (by omega)]
        refine rrows_loop (B := B) ih hf hw hK fuel (i + 1) (p, l, c) h' (by omega) (by omega) ?_
        rw [rowsR_take hlt]
        exact S'
      have hrl := rowsR_len d fs[i].t
      generalize rowsR (d + 1) (fs.take i) = pre at *
      have j3 : ∀ p l c h', St (Ow 1 (p, l, c) (u8s (pre ++ octsN 1 fs[i].name.length ++ fs[i].name ++ [fs[i].kind])) :: L) h' → waybillref1_rows.j3 K (waybillref1_rows.L1 K fuel) s.1 s.2.1 s.2.2 p l c i h' := by
        intro p l c h' S'
        obtain ⟨a, t, e, r, g, S1⟩ := tbElem S' (B := B) (s := s) hlt
        unfold waybillref1_rows.j3
        have e116 := eb8 fs[i].kind 116
        have e73 := eb8 fs[i].kind 73
        have e108 := eb8 fs[i].kind 108
        have e83 := eb8 fs[i].kind 83
        have e70 := eb8 fs[i].kind 70
        simp only [show ((116 : UInt8).toNat : Int) = 116 from rfl, show ((73 : UInt8).toNat : Int) = 73 from rfl, show ((108 : UInt8).toNat : Int) = 108 from rfl, show ((83 : UInt8).toNat : Int) = 83 from rfl, show ((70 : UInt8).toNat : Int) = 70 from rfl] at e116 e73 e108 e83 e70
        refine ⟨a, e, by omega, by omega, ?_⟩
        simp only [Int.toNat_natCast, rdN (g 1 _ rfl), bd, e116, e73, e108, e83, e70]
        have er : ∀ x, valR (rowsR d) fs[i] = x → pre ++ rowR (rowsR d) fs[i] = pre ++ octsN 1 fs[i].name.length ++ fs[i].name ++ [fs[i].kind] ++ x := by
          intro x ex
          unfold rowR
          rw [ex]
          simp only [List.append_assoc]
        have hl0 : (pre ++ octsN 1 fs[i].name.length ++ fs[i].name ++ [fs[i].kind]).length < 1099511627776 := by simp [octsN_length]; omega
        generalize pre ++ octsN 1 fs[i].name.length ++ fs[i].name ++ [fs[i].kind] = pk at *
        by_cases k1 : fs[i].kind = 116
        · refine ifT (by simp [k1]) ⟨a, e, by omega, by omega, ?_⟩
          simp only [rdN (g 2 _ rfl), wrap_nat64]
          exact rputS (s := (p, l, c)) (n := 1) S' S'.sl hl0 (by omega) fun p2 l2 c2 h2 S2 => ⟨_, _, _, rfl, next _ _ _ h2 (by rw [er _ (by unfold valR; rw [if_pos k1])]; exact S2.d1)⟩
        refine ifF (by simp [k1]) ?_
        by_cases k2 : fs[i].kind = 73
        · refine ifT (by simp [k2]) ⟨a, e, by omega, by omega, ?_⟩
          simp only [rdN (g 2 _ rfl), wrap_nat64]
          exact rputS (s := (p, l, c)) (n := 4) S' S'.sl hl0 (by omega) fun p2 l2 c2 h2 S2 => ⟨_, _, _, rfl, next _ _ _ h2 (by rw [er _ (by unfold valR; rw [if_neg k1, if_pos k2])]; exact S2.d1)⟩
        refine ifF (by simp [k2]) ?_
        by_cases k3 : fs[i].kind = 108
        · refine ifT (by simp [k3]) ⟨a, e, by omega, by omega, ?_⟩
          simp only [rdN (g 2 _ rfl), wrap_nat64]
          exact rputS (s := (p, l, c)) (n := 8) S' S'.sl hl0 (by omega) fun p2 l2 c2 h2 S2 => ⟨_, _, _, rfl, next _ _ _ h2 (by rw [er _ (by unfold valR; rw [if_neg k1, if_neg k2, if_pos k3])]; exact S2.d1)⟩
        refine ifF (by simp [k3]) ?_
        by_cases k4 : fs[i].kind = 83
        · refine ifT (by simp [k4]) ⟨a, e, by omega, by omega, ?_⟩
          simp only [rdT (g 3 _ rfl)]
          refine St.bytes u_str u_sl u_u8 S' fun cc h2 S2 => ⟨_, _, _, rfl, ?_⟩
          refine rrlongS (s := (p, l, c)) (bs := pk) (t := (some (top h'), _, cc)) S2 S2.p1.sl S2.sl hl0 (by omega) fun p2 l2 c2 h2 S2 => ⟨_, _, _, rfl, next _ _ _ h2 ?_⟩
          rw [er _ (by unfold valR; rw [if_neg k1, if_neg k2, if_neg k3, if_pos k4]), ← List.append_assoc]
          exact S2.d1.d1
        refine ifF (by simp [k4]) ?_
        by_cases k5 : fs[i].kind = 70
        · refine ifT (by simp [k5]) ⟨a, e, by omega, by omega, ?_⟩
          simp only [rdS (g 4 _ rfl)]
          refine ih (B := B) (s := t) S1 (hok.2 k5) (by omega) fun p1 l1 c1 h2 S2 => ⟨_, _, _, rfl, ?_⟩
          refine rrlongS (s := (p, l, c)) (bs := pk) (t := (p1, l1, c1)) S2 S2.p2.sl S2.sl hl0 (by omega) fun p2 l2 c2 h2 S2 => ⟨_, _, _, rfl, next _ _ _ h2 ?_⟩
          rw [er _ (by unfold valR; rw [if_neg k1, if_neg k2, if_neg k3, if_neg k4, if_pos k5]), ← List.append_assoc]
          exact S2.d1.d1.d1
        · refine ifF (by simp [k5]) (next _ _ _ h' ?_)
          rw [er [] (by unfold valR; rw [if_neg k1, if_neg k2, if_neg k3, if_neg k4, if_neg k5]), List.append_nil]
          exact S'
      obtain ⟨a, t, e, r, g, S1⟩ := tbElem S (B := B) (s := s) hlt
      have SA := S.al (u8s [fs[i].kind]) T.uint8
      obtain ⟨a2, t2, e2, r2, g2, S2⟩ := tbElem SA (B := B) (s := s) hlt
      obtain rfl : a2 = a := by rw [e] at e2; cases e2; rfl
      have eA : al h #[.int .u8 (fs[i].kind.toNat : Int)] T.uint8 = al h (u8s [fs[i].kind]).toArray T.uint8 := rfl
      refine ⟨a2, e, by omega, by omega, a2, e, by omega, by omega, ?_⟩
      have hname := fieldOk_len hok.1
      have cA : CallsH P F.waybillref1_Short [.slice o.1 o.2.1 o.2.2, .string (mkS fs[i].name)] (fun v h' => ∃ a l c, v = .slice a l c ∧ SemH P (Builtin.append_ #[T.sl_uint8, T.sl_uint8] T.sl_uint8 #[.slice a l c, .slice (some (top h)) 1 1]) (fun v h2 => ∃ a l c, v = .slice a l c ∧ waybillref1_rows.j3 K (waybillref1_rows.L1 K fuel) s.1 s.2.1 s.2.2 a l c i h2) h') (al h (u8s [fs[i].kind]).toArray T.uint8) := by
        refine rrshortS (s := o) SA SA.p1.sl (by omega) (by omega) fun p l c h2 S3 => ⟨_, _, _, rfl, ?_⟩
        have src : Src P 1 h2 (.slice (some (top h)) 1 1) 1 (u8s [fs[i].kind]) := Src.slice (n := 1) ⟨rfl, S3.p1.mem.1⟩ (u8s_one _)
        exact appS (s := (p, l, c)) S3 src (by simp [octsN_length]; omega) fun p2 l2 c2 h3 S4 => ⟨_, _, _, rfl, j3 _ _ _ h3 S4.d1.d1⟩
      have cB : CallsH P F.waybillref1_Short [.slice o.1 o.2.1 o.2.2, .string (mkS fs[i].name)] (fun v h' => ∃ a l c, v = .slice a l c ∧ SemH P (Builtin.append_ #[T.sl_uint8, T.sl_uint8] T.sl_uint8 #[.slice a l c, .slice (some (top h')) 1 1]) (fun v h2 => ∃ a l c, v = .slice a l c ∧ waybillref1_rows.j3 K (waybillref1_rows.L1 K fuel) s.1 s.2.1 s.2.2 a l c i h2) (al h' #[.int .u8 (fs[i].kind.toNat : Int)] T.uint8)) h := by
        refine rrshortS (s := o) S S.sl (by omega) (by omega) fun p l c h2 S3 => ⟨_, _, _, rfl, ?_⟩
        exact app1S (o := (p, l, c)) S3 (by simp [octsN_length]; omega) fun p2 l2 c2 h3 S4 => ⟨_, _, _, rfl, j3 _ _ _ h3 S4.d1⟩
      have cC : CallsH P F.waybillref1_Short [.slice o.1 o.2.1 o.2.2, .string (mkS fs[i].name)] (fun v h' => ∃ a l c, v = .slice a l c ∧ ∃ n, hcell h' (Addr.add (Addr.add a2 (i * 5)) 1) = some (.int .u8 n) ∧ SemH P (Builtin.append_ #[T.sl_uint8, T.sl_uint8] T.sl_uint8 #[.slice a l c, .slice (some (top h')) 1 1]) (fun v h2 => ∃ a l c, v = .slice a l c ∧ waybillref1_rows.j3 K (waybillref1_rows.L1 K fuel) s.1 s.2.1 s.2.2 a l c i h2) (al h' #[.int .u8 n] T.uint8)) h := by
        refine rrshortS (s := o) S S.sl (by omega) (by omega) fun p l c h2 S3 => ⟨_, _, _, rfl, ?_⟩
        obtain ⟨a3, t3, e3, r3, g3, _⟩ := tbElem S3 (B := B) (s := s) hlt
        obtain rfl : a3 = a2 := by rw [e] at e3; cases e3; rfl
        refine ⟨_, g3 1 _ rfl, ?_⟩
        exact app1S (o := (p, l, c)) S3 (by simp [octsN_length]; omega) fun p2 l2 c2 h3 S4 => ⟨_, _, _, rfl, j3 _ _ _ h3 S4.d1⟩
      simp only [Int.toNat_natCast, rdT (g 0 _ rfl), rdN (g 1 _ rfl), bd, eA, rdT (g2 0 _ rfl)]
      exact ⟨⟨cC, cB, cA⟩, ⟨cB, cA⟩, cA⟩
    · refine ifF (by simp; omega) (hK _ _ _ h ?_)
      rw [List.take_of_length_le (by omega)] at S
      exact S
end

theorem rrows_spec : ∀ d : Nat, d ≤ 8 → RRowsC d
  | 0, _ => by
    intro S _ hf hw hK
    cases hf
  | d + 1, hd => by
    intro S _ hf hw hK; rename_i K L h B s fs _
    have ih : RRowsC d := rrows_spec d (by omega)
    refine waybillref1_rows.ok ?_
    unfold waybillref1_rows.p0
    exact ⟨fs.length + 1, rrows_loop (B := B) ih hf hw hK _ 0 (none, 0, 0) h (by omega) (Nat.zero_le _) (S.owNil 1)⟩

/-! ### What they weigh -/

theorem wgtGo_le {d : Nat} (ih : ∀ fs, wgtP d fs ≤ 16 * wtD d fs) : ∀ (fs : List PF) (n : Nat), wgtGo (wgtP d) fs n ≤ n + 16 * wtD (d + 1) fs
  | [], n => by simp [wgtGo]
  | f :: r, n => by
    unfold wgtGo
    split
    · have h1 := wgtGo_le ih r (n + 13 + f.name.length + min f.s.length 4000 + wgtP d f.t)
      have h2 := ih f.t
      have h3 : wtD (d + 1) (f :: r) = 1 + f.name.length + f.s.length + wtD d f.t + wtD (d + 1) r := by simp [wtD]
      omega
    · omega
theorem wgtP_le : ∀ (d : Nat) (fs : List PF), wgtP d fs ≤ 16 * wtD d fs
  | 0, _ => Nat.zero_le _
  | d + 1, fs => by
    have := wgtGo_le (wgtP_le d) fs 0
    show wgtGo (wgtP d) fs 0 ≤ _
    omega

def WgtC (d : Nat) : Prop := ∀ {K : KT} {L : List Asr} {h : Heap} {B : Nat → Prop} {s : SV} {fs : List PF} (S : St L h) [In (Tb B s) L fs] (hw : wtD d fs ≤ 67108864) (hK : ∀ h', St L h' → K (.int .i64 (wgtP d fs : Nat)) h'),
  CallsH P F.waybillref1_weight [.slice s.1 s.2.1 s.2.2, .int .i64 (9 - (d : Int))] K h

section
variable {K : KT} {L R : List Asr} {h : Heap}

theorem weight_loop {d : Nat} (ih : WgtC d) (hd : d ≤ 8) {B : Nat → Prop} {s : SV} {fs : List PF} {res : Nat} (hw : wtD (d + 1) fs ≤ 67108864) [In (Tb B s) L fs] (hK : ∀ h', St L h' → K (.int .i64 (res : Nat)) h') :
    ∀ (fuel i n : Nat) (h : Heap), fs.length - i < fuel → i ≤ fs.length → n ≤ 2147483648 → wgtGo (wgtP d) (fs.drop i) n = res → St L h → waybillref1_weight.L1 K fuel s.1 s.2.1 s.2.2 (8 - (d : Int)) n i h
  | 0, _, _, _, hf, _, _, _, _ => absurd hf (Nat.not_lt_zero _)
  | fuel + 1, i, n, h, hf, hi, hn, hg, S => by
    have lt := tbLen S (B := B) (s := s)
    have hl := wtD_len (d := d) (fs := fs)
    unfold waybillref1_weight.L1
    have stop : wgtGo (wgtP d) (fs.drop i) n = n → waybillref1_weight.j2 K (waybillref1_weight.L1 K fuel) s.1 s.2.1 s.2.2 (8 - (d : Int)) n i false h := by
      intro e
      unfold waybillref1_weight.j2
      refine ifF rfl ?_
      rw [e] at hg
      subst hg
      exact hK h S
    by_cases hlt : i < fs.length
    · refine ifT (by simp; omega) ?_
      have hdrop : fs.drop i = fs[i] :: fs.drop (i + 1) := List.drop_eq_getElem_cons hlt
      rw [hdrop] at hg stop
      unfold wgtGo at hg stop
      by_cases h2 : n ≤ 2000
      · rw [if_pos h2] at hg
        refine ifT (by simp; omega) ?_
        rw [decide_eq_true (by omega)]
        have hp := wtD_part (d := d) (List.getElem_mem hlt)
        have hwl := wgtP_le d fs[i].t
        have next : ∀ h', St L h' → waybillref1_weight.j3 K (waybillref1_weight.L1 K fuel) s.1 s.2.1 s.2.2 (8 - (d : Int)) ((n + 13 + fs[i].name.length + min fs[i].s.length 4000 + wgtP d fs[i].t : Nat) : Int) i h' := by
          intro h' S'
          unfold waybillref1_weight.j3
          simp only [bd]
          rw [wsucc (by omega)]
          exact weight_loop (B := B) ih hd hw hK fuel (i + 1) _ h' (by omega) (by omega) (by omega) hg S'
        have ew : IntKind.i64.wrap ((IntKind.i64.wrap ((IntKind.i64.wrap ((IntKind.i64.wrap ((n : Int) + 13)) + ((List.length fs[i].name : Nat) : Int))) + (if (4000 : Int) < ((List.length fs[i].s : Nat) : Int) then 4000 else ((List.length fs[i].s : Nat) : Int)))) + ((wgtP d fs[i].t : Nat) : Int)) = ((n + 13 + fs[i].name.length + min fs[i].s.length 4000 + wgtP d fs[i].t : Nat) : Int) := by
          rw [wrapI (n := (n : Int) + 13) (by omega) (by omega), wrapI (n := (n : Int) + 13 + _) (by omega) (by omega)]
          have : (if (4000 : Int) < ((List.length fs[i].s : Nat) : Int) then 4000 else ((List.length fs[i].s : Nat) : Int)) = ((min fs[i].s.length 4000 : Nat) : Int) := by split <;> omega
          rw [this, wrapI (n := (n : Int) + 13 + _ + _) (by omega) (by omega), wrapI (by omega) (by omega)]
          omega
        obtain ⟨a, t, e, r, g, S1⟩ := tbElem S (B := B) (s := s) hlt
        unfold waybillref1_weight.j2
        refine ifT rfl ⟨a, e, by omega, by omega, a, e, by omega, by omega, a, e, by omega, by omega, ?_⟩
        have ed : IntKind.i64.wrap ((8 : Int) - (d : Int) + 1) = 9 - (d : Int) := by rw [wrapI (by omega) (by omega)]; omega
        simp only [Int.toNat_natCast, rdT (g 0 _ rfl), rdT (g 3 _ rfl), rdS (g 4 _ rfl), ed]
        repeat' (with_reducible refine And.intro ?_ ?_)
        all_goals
          refine ih (B := B) (s := t) S1 (by omega) fun h2 S2 => ⟨_, rfl, ?_⟩
          obtain ⟨a3, t3, e3, r3, g3, _⟩ := tbElem S2.tl (B := B) (s := s) hlt
          obtain rfl : a3 = a := by rw [e] at e3; cases e3; rfl
          try simp only [rdT (g3 0 _ rfl), rdT (g3 3 _ rfl)]
          simp only [bd, ew]
          try simp only [and_self]
          exact next h2 S2.tl
      · rw [if_neg h2] at stop
        exact ifF (by simp; omega) (stop rfl)
    · refine ifF (by simp; omega) (stop ?_)
      rw [List.drop_eq_nil_of_le (by omega)]
      rfl
end

theorem weight_spec : ∀ d : Nat, d ≤ 9 → WgtC d
  | 0, _ => by
    intro S _ hw hK; rename_i K L h B s fs _ _
    refine waybillref1_weight.ok ?_
    unfold waybillref1_weight.p0
    refine ⟨1, ?_⟩
    unfold waybillref1_weight.L1
    have stop : waybillref1_weight.j2 K (waybillref1_weight.L1 K 0) s.1 s.2.1 s.2.2 9 0 0 false h := by
      unfold waybillref1_weight.j2
      exact ifF rfl (hK h S)
    exact ⟨fun _ => ifT (by decide) stop, fun _ => stop⟩
  | d + 1, hd => by
    intro S _ hw hK; rename_i K L h B s fs _
    have ih : WgtC d := weight_spec d (by omega)
    refine waybillref1_weight.ok ?_
    unfold waybillref1_weight.p0
    have e : (9 : Int) - ((d + 1 : Nat) : Int) = 8 - (d : Int) := by omega
    rw [e]
    exact ⟨fs.length + 1, weight_loop (B := B) ih (by omega) hw hK _ 0 0 h (by omega) (Nat.zero_le _) (by omega) rfl S⟩

section
variable {K : KT} {L R : List Asr} {h : Heap}
/-- Whether a table may be. -/
theorem rtokS {B : Nat → Prop} {s : SV} {fs : List PF} (S : St L h) [In (Tb B s) L fs] (hw : wtD 8 fs ≤ 67108864) (hK : ∀ h', St L h' → K (.bool (tableOkP fs)) h') : CallsH P F.waybillref1_TableOk [.slice s.1 s.2.1 s.2.2] K h := by
  refine waybillref1_TableOk.ok ?_
  unfold waybillref1_TableOk.p0
  rw [tableOk_wgt] at hK
  refine formed_spec 8 (by omega) (B := B) S (by omega) fun h1 S1 => ⟨_, rfl, fun e => ?_, fun e => ?_⟩
  · rw [e, Bool.true_and] at hK
    refine weight_spec 8 (by omega) (B := B) S1 (by omega) fun h2 S2 => ⟨_, rfl, ?_⟩
    by_cases hw2 : wgtP 8 fs ≤ 1900
    · rw [decide_eq_true hw2, Bool.true_or] at hK
      exact ifT' (by simp; omega) (hK h2 S2)
    · refine ifF' (by simp; omega) (rrows_spec 8 (by omega) (B := B) S2 e (by omega) fun p l c h3 S3 => ⟨_, _, _, rfl, ?_⟩)
      have ll : l = (rowsR 8 fs).length := by have := Sl.len S3.sl; simpa using this
      simp only [bd]
      rw [show decide (((l : Nat) : Int) ≤ 2000) = decide ((rowsR 8 fs).length ≤ 2000) by rw [ll]; congr 1; rw [eq_iff_iff]; omega]
      rw [decide_eq_false hw2, Bool.false_or] at hK
      exact hK h3 S3.tl
  · rw [e, Bool.false_and] at hK
    exact hK h1 S1
/-- What a table says. -/
theorem rrowsS {B : Nat → Prop} {s : SV} {fs : List PF} (S : St L h) [In (Tb B s) L fs] (hf : formedP 8 fs = true) (hw : wtD 8 fs ≤ 67108864) (hK : ∀ p l c h', St (Ow 1 (p, l, c) (u8s (rowsR 8 fs)) :: L) h' → K (.slice p l c) h') : CallsH P F.waybillref1_rows [.slice s.1 s.2.1 s.2.2] K h :=
  rrows_spec 8 (by omega) (B := B) S hf hw hK
end
end Go.Proofs.Ytpfnfmlibpoleaa.Pr
