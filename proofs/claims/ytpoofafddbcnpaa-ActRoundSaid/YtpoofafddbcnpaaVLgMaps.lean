/- Operations: maps whose keys are whole numbers. -/
import Derived.Test.YtpoofafddbcnpaaVLgOps7
import Derived.MapKept
namespace Lg
open Go Go.RowKit
set_option linter.unusedSimpArgs false
set_option linter.unusedVariables false
section
variable {P : Program} {m : Bool} {w0 : Ini m} {ρ : List Place} {h h' : Heap} {w : World} {a : Act} {env : Env} {cf : CallF} {lo : Nat} {l : LV}

theorem cell?_map {w : World} {r i : Nat} {ms : Array MapEntry} {c : Nat} (hr : w.heap[r]? = some (.map ms c)) (x : Addr) (hx : x.block = r) : w.cell? x = none ∧ w.frozen? x = false := by
  subst hx
  constructor
  · unfold World.cell?; rw [hr]
  · unfold World.frozen?; rw [hr]
/-- A map's block,set anew. -/
def setMap (w : World) (r : Nat) (o : Obj) : World := { w with heap := w.heap.setIfInBounds r o }
theorem setMap_other (w : World) (r : Nat) (o : Obj) (k : Nat) (hk : k ≠ r) : (setMap w r o).heap[k]? = w.heap[k]? := by
  simp only [setMap,Array.getElem?_setIfInBounds]
  rw [if_neg (by omega)]
theorem setMap_self {w : World} {r : Nat} (o : Obj) (hr : r < w.heap.size) : (setMap w r o).heap[r]? = some o := by
  simp [setMap,Array.getElem?_setIfInBounds,hr]
theorem setMap_size (w : World) (r : Nat) (o : Obj) : (setMap w r o).heap.size = w.heap.size := by simp [setMap]
theorem Keeps.setMap {w : World} {r : Nat} {ms ms' : Array MapEntry} {c c' : Nat} (hr : w.heap[r]? = some (.map ms c)) {pl pm : Place} (hpl : pl.block = r ∧ pl.off = 0 ∧ 1 ≤ pl.ext) (hd : Dis pl pm) : Keeps w (Lg.setMap w r (.map ms' c')) pm := by
  obtain ⟨h1,h2,h3⟩ := hpl
  have hlt : r < w.heap.size := (Array.getElem?_eq_some_iff.1 hr).1
  by_cases hb : pm.block = r
  · have h4 := setMap_self (w := w) (.map ms' c') hlt
    refine ⟨fun i _ => ?_,fun i _ => ?_,fun e1 e2 => ?_⟩
    · rw [(cell?_map (i := 0) h4 _ (by exact hb)).1,(cell?_map (i := 0) hr _ (by exact hb)).1]
    · rw [(cell?_map (i := 0) h4 _ (by exact hb)).2,(cell?_map (i := 0) hr _ (by exact hb)).2]
    · unfold Dis at hd; omega
  · have h4 := setMap_other w r (.map ms' c') pm.block hb
    refine ⟨fun i _ => World.cell?_of_block (w := w) (by simpa [Place.at] using h4),fun i _ => World.frozen?_of_block (w := w) (by simpa [Place.at] using h4),fun e1 e2 es cc he => by rw [h4]; exact he⟩
theorem Rep.mkmap (R : Rep w0 ρ h w) : Rep w0 (ρ ++ [⟨w.heap.size,0,1⟩]) (h ++ [.map []]) (w.alloc (.map #[] 0)) := by
  refine R.push ?_ (R.below.alloc R.below.size _) (by simp) (.inl (by simp)) (fun _ => R.below.size) (fun m c pm hc hl hm => Keeps.alloc _ _ _ (R.ltS hc hm)) (fun _ m c pm hc hl hm => (R.fresh_dis 1 hm).span (R.blk m c pm hc hm).span_le) (fun _ m c pm hc hr hm => (R.fresh_dis 1 hm).symm)
  exact ⟨Nat.le_refl _,rfl,#[],0,(MapKept.heap_alloc w _).1,rfl,fun i m e hm => by simp at hm⟩
theorem Rep.setMap (R : Rep w0 ρ h w) {n : Nat} {es es' : List (LV × LV)} {pl : Place} {ms ms' : Array MapEntry} {c c' : Nat} (hn : h[n]? = some (.map es)) (hp : ρ[n]? = some pl) (hr : w.heap[pl.block]? = some (.map ms c))
    (hsz : ms'.size = es'.length) (hv : ∀ (i : Nat) (m : MapEntry) (e : LV × LV),ms'[i]? = some m → es'[i]? = some e → VR ρ m.key e.1 ∧ VR ρ m.val e.2) : Rep w0 ρ (h.set n (.map es')) (Lg.setMap w pl.block (.map ms' c')) := by
  obtain ⟨h0,h1,_⟩ := R.blk n _ pl hn hp
  have hlt : pl.block < w.heap.size := (Array.getElem?_eq_some_iff.1 hr).1
  have hB := R.below
  have hown := R.own n _ pl hn rfl hp
  refine R.upd hn hp (fun h => h) (fun h => h) ⟨h0,h1,ms',c',setMap_self _ hlt,hsz,hv⟩ ⟨⟨hB.os,hB.tape,hB.output,by rw [setMap_size]; exact hB.size,fun k hk => by rw [setMap_other _ _ _ _ (by omega)]; exact hB.block k hk⟩,hB.dr⟩ (by rw [setMap_size]; exact Nat.le_refl _)
    (fun m c pm hne hc hl hm => Keeps.setMap hr ⟨rfl,h1,h0⟩ (R.dis n m _ c pl pm (fun e => hne e.symm) hn hc hp hm rfl hl)) rfl

/-- Keys that are whole numbers,looked for. -/
theorem find_int {kd k : IntKind} {n : Int} {x : LV} : ∀ (ms : List MapEntry) (es : List (LV × LV)) (i : Nat) (r : Option LV),ms.length = es.length →
    (∀ (j : Nat) (m : MapEntry) (e : LV × LV),ms[j]? = some m → es[j]? = some e → VR ρ m.key e.1 ∧ VR ρ m.val e.2) → findE (.int k n) es = some r →
    (r = none ∧ Instr.findNow (.int kd) (.int k n) ms i = some none ∧ updE (.int k n) x es = some (es ++ [(.int k n,x)])) ∨
    ∃ v j m e,r = some v ∧ Instr.findNow (.int kd) (.int k n) ms i = some (some (i + j,m.val)) ∧ ms[j]? = some m ∧ es[j]? = some e ∧ e.2 = v ∧ m.key = .int k n ∧ updE (.int k n) x es = some (es.set j (.int k n,x))
  | [],[],i,r,_,_,h => by
    simp only [findE,Option.some.injEq] at h
    exact .inl ⟨h.symm,rfl,rfl⟩
  | [],_ :: _,_,_,h,_,_ => by simp at h
  | _ :: _,[],_,_,h,_,_ => by simp at h
  | m :: ms,(k',v') :: es,i,r,hl,hv,h => by
    obtain ⟨hk,hx⟩ := hv 0 m (k',v') rfl rfl
    simp only [findE] at h
    cases hke : keyEq (.int k n) k' with
    | none => rw [hke] at h; cases h
    | some b =>
      rw [hke] at h
      cases k' with
      | int k2 n2 =>
        simp only [keyEq] at hke
        have hmk : m.key = .int k2 n2 := VR.int_inv hk
        by_cases hkk : k = k2
        case neg => rw [if_neg hkk] at hke; cases hke
        subst hkk
        rw [if_pos rfl] at hke
        cases b with
        | true =>
          simp only [Option.some.injEq] at h hke
          have hnn : n = n2 := by simpa using hke
          subst hnn
          refine .inr ⟨v',0,m,(.int k n,v'),h.symm,?_,rfl,rfl,rfl,hmk,?_⟩
          · simp [Instr.findNow,Instr.sameNow,hmk]
          · simp [updE,keyEq]
        | false =>
          simp only at h
          have hnn : n ≠ n2 := by simpa using hke
          have hb : (n == n2) = false := by simpa using hnn
          rcases find_int (kd := kd) (x := x) ms es (i + 1) r (by simpa using hl) (fun j m e h1 h2 => hv (j + 1) m e (by simpa using h1) (by simpa using h2)) h with ⟨h1,h2,h3⟩ | ⟨v,j,m',e,h1,h2,h3,h4,h5,h6,h7⟩
          · exact .inl ⟨h1,by simp [Instr.findNow,Instr.sameNow,hmk,hb,h2],by simp [updE,keyEq,hb,h3]⟩
          · refine .inr ⟨v,j + 1,m',e,h1,?_,by simpa using h3,by simpa using h4,h5,h6,by simp [updE,keyEq,hb,h7]⟩
            simp [Instr.findNow,Instr.sameNow,hmk,hb,h2,Nat.add_comm,Nat.add_left_comm]
      | _ => simp [keyEq] at hke
theorem run_check_int {kt : TypeId} {kd k : IntKind} {n : Int} (hd : P.underlying kt = some (.int kd)) (e : Bool) (d : Nat) (w : World) : (Instr.checkKey e (d + 1) kt (.int k n)).run P w = .ok () w := by
  unfold Instr.checkKey
  simp only [Sem.run_bind,run_underlying hd,Result.andThen]
  rfl
theorem run_stays (k : IntKind) (n : Int) (w : World) : (Instr.keyThatStays (.int k n) (.int k n)).run P w = .ok (.int k n) w := by
  have : Instr.sameBits 10000 (.int k n) (.int k n) = true := by simp [Instr.sameBits]
  unfold Instr.keyThatStays
  rw [this]
  rfl
theorem sim_mkmap {t : TypeId} (E : ER ρ a env) (R : Rep w0 ρ h w) (hE : opE cf lo .mkmap env h = some (l,h')) : Sim P (do pure (.value (← Instr.makeMap t none))) w0 ρ w l h' := by
  simp only [opE,Option.some.injEq,Prod.mk.injEq] at hE
  obtain ⟨rfl,rfl⟩ := hE
  refine ⟨.map (some w.heap.size),w.alloc (.map #[] 0),_,Ext.app _ _,R.mkmap,?_,.inl ?_⟩
  · exact VR.map (n := h.length) (pl := ⟨w.heap.size,0,1⟩) (by rw [← R.len]; simp)
  · simp [Instr.makeMap,newObj,Sem.run]
theorem simpleKey_int {k : LV} (h : simpleKey k = true) : ∃ kk n,k = .int kk n := by
  cases k <;> first | exact ⟨_,_,rfl⟩ | simp [simpleKey] at h
theorem sim_lookup {t kt e : TypeId} {kd : IntKind} {z : LV} {zv : Value} {ok : Bool} {x k : Operand} {lx lk : X} (ht : P.underlying t = some (.map kt e)) (hk : P.underlying kt = some (.int kd)) (hz : ((P.info? e).bind (·.zero)) = some zv) (hzl : ofValue zv = some z)
    (hx : preX x = some lx) (hkx : preX k = some lk) (E : ER ρ a env) (R : Rep w0 ρ h w)
    (hE : opE cf lo (.lookup z ok lx lk) env h = some (l,h')) : Sim P (do pure (.value (← Instr.lookup t (a.eval x) (a.eval k) ok))) w0 ρ w l h' := by
  simp only [opE] at hE
  have h1 := preX_vr E hx
  have h2 := preX_vr E hkx
  split at hE
  case isFalse => cases hE
  rename_i hsk
  obtain ⟨kk,n,hkn⟩ := simpleKey_int hsk
  rw [hkn] at h2 hE
  have hkv := VR.int_inv h2
  have hzr := ofValue_vr ρ hzl
  rw [hkv]
  have zr : VR ρ (if ok then Value.tuple #[zv,.bool false] else zv) (if ok then .tup [z,.bool false] else z) := by
    cases ok
    · exact hzr
    · exact VR.tup _ _ rfl fun i v l h1 h2 => by
        rcases i with _ | _ | i
        · simp at h1 h2; subst h1; subst h2; exact hzr
        · simp at h1 h2; subst h1; subst h2; exact .bool _
        · simp at h2
  split at hE
  · rename_i hv
    simp only [Option.some.injEq,Prod.mk.injEq] at hE
    obtain ⟨rfl,rfl⟩ := hE
    rw [hv] at h1
    generalize a.eval x = v at h1 ⊢
    cases h1
    refine sim_vals R zr ?_
    simp [Instr.lookup,run_underlying ht,run_check_int hk,MapKept.run_findKey hk (a := none) (l := []) rfl,run_zero hz]
  · rename_i b hv
    rw [hv] at h1
    split at hE
    case h_2 => cases hE
    rename_i es hb
    obtain ⟨pl,ms,c,hp,hve,hm,hsz,_,_,hmv⟩ := R.map hb h1
    rw [hve]
    have hget := run_getMap (P := P) hm
    cases hf : findE (.int kk n) es with
    | none => rw [hf] at hE; cases hE
    | some r =>
      rw [hf] at hE
      rcases find_int (kd := kd) (x := .undef) ms.toList es 0 r (by simpa using hsz) (fun j m e h1 h2 => hmv j m e (by simpa using h1) h2) hf with ⟨rfl,h2,_⟩ | ⟨v,j,me,e,rfl,h2,h3,h4,h5,h6,_⟩
      · simp only [Option.some.injEq,Prod.mk.injEq] at hE
        obtain ⟨rfl,rfl⟩ := hE
        refine sim_vals R zr ?_
        simp [Instr.lookup,run_underlying ht,hget,run_check_int hk,MapKept.run_findKey hk h2,run_zero hz]
      · simp only [Option.some.injEq,Prod.mk.injEq] at hE
        obtain ⟨rfl,rfl⟩ := hE
        have hvr := (hmv j me e (by simpa using h3) h4).2
        rw [h5] at hvr
        have vr : VR ρ (if ok then Value.tuple #[me.val,.bool true] else me.val) (if ok then .tup [v,.bool true] else v) := by
          cases ok
          · exact hvr
          · exact VR.tup _ _ rfl fun i v' l h1 h2 => by
              rcases i with _ | _ | i
              · simp at h1 h2; subst h1; subst h2; exact hvr
              · simp at h1 h2; subst h1; subst h2; exact .bool _
              · simp at h2
        refine sim_vals R vr ?_
        simp [Instr.lookup,run_underlying ht,hget,run_check_int hk,MapKept.run_findKey hk h2]
  · cases hE
theorem sim_update {t kt e : TypeId} {kd : IntKind} {x k y : Operand} {lx lk ly : X} (ht : P.underlying t = some (.map kt e)) (hk : P.underlying kt = some (.int kd))
    (hx : preX x = some lx) (hkx : preX k = some lk) (hy : preX y = some ly) (E : ER ρ a env) (R : Rep w0 ρ h w)
    (hE : opE cf lo (.update lx lk ly) env h = some (l,h')) : Sim P (do Instr.mapUpdate t (a.eval x) (a.eval k) (a.eval y); pure .skip) w0 ρ w l h' := by
  simp only [opE] at hE
  have h1 := preX_vr E hx
  have h2 := preX_vr E hkx
  have hyv := preX_vr E hy
  split at hE
  case isFalse => cases hE
  rename_i hsk
  obtain ⟨kk,n,hkn⟩ := simpleKey_int hsk
  rw [hkn] at h2 hE
  have hkv := VR.int_inv h2
  rw [hkv]
  split at hE
  case h_2 => cases hE
  rename_i b hv
  rw [hv] at h1
  split at hE
  case h_2 => cases hE
  rename_i es hb
  split at hE
  case isFalse => cases hE
  cases hu : updE (.int kk n) (ly.ev env) es with
  | none => rw [hu] at hE; cases hE
  | some es' =>
    rw [hu] at hE
    simp only [Option.some.injEq,Prod.mk.injEq] at hE
    obtain ⟨rfl,rfl⟩ := hE
    obtain ⟨pl,ms,c,hp,hve,hm,hsz,_,_,hmv⟩ := R.map hb h1
    rw [hve]
    have hget := run_getMap (P := P) hm
    have hff : ∃ r,findE (.int kk n) es = some r := by
      clear hve hmv hsz hm hget hb h1 hv
      induction es generalizing es' with
      | nil => exact ⟨_,rfl⟩
      | cons e es ih =>
        simp only [updE] at hu
        simp only [findE]
        cases hq : keyEq (.int kk n) e.1 with
        | none => rw [hq] at hu; cases hu
        | some b =>
          rw [hq] at hu
          cases b with
          | true => exact ⟨_,rfl⟩
          | false =>
            simp only at hu ⊢
            cases hu2 : updE (.int kk n) (ly.ev env) es with
            | none => rw [hu2] at hu; cases hu
            | some es2 => exact ih es2 hu2
    obtain ⟨r,hf⟩ := hff
    rcases find_int (kd := kd) (x := ly.ev env) ms.toList es 0 r (by simpa using hsz) (fun j m e h1 h2 => hmv j m e (by simpa using h1) h2) hf with ⟨rfl,h2,h3⟩ | ⟨v,j,me,e,rfl,h2,h3,h4,h5,h6,h7⟩
    · rw [hu] at h3
      simp only [Option.some.injEq] at h3
      subst h3
      refine ⟨undef,setMap w pl.block (.map (ms.push ⟨.int kk n,a.eval y,c⟩) (c + 1)),ρ,Ext.refl ρ,R.setMap hb hp hm (by simp [hsz]) ?_,VRs.tup (VRs.nil ρ),.inr ⟨?_,rfl⟩⟩
      · intro i m e hi he
        rw [Array.getElem?_push] at hi
        rcases getElem?_snoc he with he | ⟨hil,rfl⟩
        · rw [if_neg (by have := lt_of_getElem? he; omega)] at hi
          exact hmv i m e hi he
        · rw [if_pos (by omega)] at hi
          cases hi
          exact ⟨.int _ _,hyv⟩
      · simp [Instr.mapUpdate,run_underlying ht,hget,run_check_int hk,MapKept.run_findKey hk h2,MapKept.run_setObj_map _ hm,setMap]
    · rw [hu] at h7
      simp only [Option.some.injEq] at h7
      subst h7
      have hmj : ms[j]? = some me := by simpa using h3
      refine ⟨undef,setMap w pl.block (.map (ms.modify j fun e => { e with key := .int kk n,val := a.eval y }) c),ρ,Ext.refl ρ,R.setMap hb hp hm (by simp [hsz]) ?_,VRs.tup (VRs.nil ρ),.inr ⟨?_,rfl⟩⟩
      · intro i m e hi he
        rw [Array.getElem?_modify] at hi
        rw [List.getElem?_set] at he
        by_cases hij : j = i
        · subst hij
          rw [if_pos rfl,hmj] at hi
          rw [if_pos rfl,if_pos (lt_of_getElem? h4)] at he
          cases hi; cases he
          exact ⟨.int _ _,hyv⟩
        · rw [if_neg hij] at hi he
          exact hmv i m e hi he
      · have hkey : ((ms[j]?).map (·.key)).getD (.int kk n) = .int kk n := by rw [hmj]; exact h6
        rw [Nat.zero_add] at h2
        simp [Instr.mapUpdate,run_underlying ht,hget,run_check_int hk,MapKept.run_findKey hk h2,MapKept.run_setObj_map _ hm,setMap,run_stays,hmj,h6]
end
end Lg
