import Derived.Test.YtgehibgkabhcaaaGreatDoorC3
import Derived.Test.YtgehibgkabhcaaaGreatDoorRows
import Derived.Shelf.LaysM
import Derived.Shelf.Strconv.Clone
import Derived.Shelf.Strings.Search2
import Derived.Shelf.Strings.Repeat
import Derived.Test.YtgehibgkabhcaaaGreatDoorProg
import Derived.Shelf.SlLaysNS
namespace Go.Ev.S
open Go Go.Proofs Go.Ev
def KG (k:Nat→List Nat) (r:Nat):Option (List Nat × Nat):=some (k r,0)
def KF (l:List (List Nat)) (r:Nat):Option (List Nat × Nat):=(l[r]?).map (·,0)
@[simp] def kl3:Nat→List Nat|0=>[0,1,2,3,4]|1=>[0,2,3,4,6]|2|4|6|11|16=>[0,2,3,4,6,11]|5=>[11]|7|8|9=>[0,2,3,4,6,11,12]|12|13|14=>[0,2,3,4,6,11,13]|17|19=>[0,6,11,14]|20=>[0,6,11,14,15,16]|21=>[6,11,14,15,16,17,18]|22=>[6,11,14,15,16,17,18,19]|23=>[6,11,15,16,17,18,19,20,21,22]|24=>[6,11,15,16,17,18,20,21,22,23,24]|_=>[]
@[simp] def kl5:Nat→List Nat|0|1=>[0,1,2]|2|4=>[0,1,2,7]|5|6|7=>[0,1,2,7,9]|8=>[0,1,2,7,9,10]|9=>[0,1,2,7,9,10,11]|10=>[0,1,2,7,9,10,11,12]|11|12=>[0,1,2,7,9,11,12,13]|13=>[1,2,7]|14|15|16|17=>[1,2,7,15]|18=>[7]|_=>[]
@[simp] def kl6:Nat→List Nat|0=>[0]|1=>[0,2]|2|4|6|7|8|15=>[0,2,4]|3|5|11|16=>[2]|9=>[0,2,4,5]|10|12|13|14=>[0,2,4,6]|17=>[2,4]|_=>[]
@[simp] def kl7:Nat→List Nat|0=>[0]|1|3|5=>[0,2]|2|4|7|14=>[2]|6|8=>[0,2,4]|9=>[0,2,5]|10|11|12|13=>[0,2,5,6]|15=>[2,5]|_=>[]
@[simp] def kl8:Nat→List Nat|0=>[0]|1=>[0,2]|2=>[0,2,3]|3=>[0,2,3,4]|4|5|6=>[0,2,3,4,5]|7=>[0,2,3,4,5,6]|8=>[2,3]|_=>[]
@[simp] def kl9:Nat→List Nat|0|1|3=>[0]|4=>[0,5]|5=>[0,5,6]|6|7|15=>[0,5,6,18,19,20]|8|13=>[0,5,6,8,18,19,20]|9=>[0,5,6,8,9,10,18,19,20]|10=>[0,5,6,8,9,18,19,20]|11=>[0,5,6,8,9,11,18,19,20]|12=>[0,5,6,8,9,13,14,18,19,20]|14=>[0,5,6,8,9,13,18,19,20]|16=>[5,6]|_=>[]
@[simp] def qql:Nat→List Nat|0|1=>[0,1]|2=>[0,1,6]|3=>[0,1,6,7]|4|5|6|10=>[0,1,6,7,8]|7=>[0,1,6,7,8,9,10]|8=>[0,1,6,7,8,9]|9=>[0,1,6,7,8,9,11,12]|11=>[0,1,6,7,8,9,11]|12=>[6,7]|_=>[]
@[simp] def qqc:Nat→List Nat|0=>[0]|1=>[1,2]|_=>[]
@[simp] def qpU:Nat→List Nat|0=>[0]|1|7|9|10=>[1]|2|4|6|8=>[1,4]|_=>[]
@[simp] def qpO:Nat→List Nat|0=>[0]|1|8=>[1]|2|4|6|7=>[1,5]|9=>[1,3]|10|11=>[3]|_=>[]
@[simp] def qpF:Nat→List Nat|0|1|3=>[0,1]|4|5|6=>[0,1,5]|_=>[]
@[simp] def qpB:Nat→List Nat|0|1|3=>[0,1]|4|5|6=>[0,1,5]|_=>[]
@[simp] def qp1:Nat→List Nat|0|1|3|4=>[0,1]|_=>[]
@[simp] def qpw:Nat→List Nat|0=>[0]|1=>[0,2]|2=>[0,2,3]|3=>[2,3]|_=>[]
@[simp] def qpr:Nat→List Nat|0|1=>[0,1]|2=>[0,1,6]|3=>[0,1,7]|4|5=>[0,1,7,8]|6|8=>[0,1,7,8,9]|7=>[0,1,7,8,9,11]|9=>[7,8]|_=>[]
@[simp] def qpn:Nat→List Nat|0|1|9|12=>[0,1]|2=>[0,1,6]|3|5=>[0,1,6,7]|6=>[6]|7=>[0,1,7]|10=>[0,1,9]|11=>[9]|13|14=>[0,10]|_=>[]
def qxY:=KF [[0,1,2,3],[0,1,2,3],[0,2,3,9,10],[10],[0,2,3,9],[0,2,3,9,11],[0,9,11,12],[12],[0,9,11],[0,9,11,13],[0,9,11,13,15],[],[0,9,11],[9,11,16],[16],[9,11],[]]
@[simp] def qoZ:Nat→List Nat|0|1=>[0,1,2]|2=>[1,2,7]|3|4|5=>[1,2,7,8]|6=>[1,2,7,8,9]|7=>[7]|_=>[]
@[simp] def qoV:Nat→List Nat|0|1=>[0,1]|2=>[0,1,5]|3|4=>[0,5]|_=>[]
@[simp] def qoO:Nat→List Nat|0|1=>[0,1]|_=>[]
@[simp] def qoI:Nat→List Nat|0|1=>[0,1]|_=>[]
@[simp] def qo8:Nat→List Nat|0|1=>[0,1]|_=>[]
@[simp] def qo1:Nat→List Nat|0|1=>[0,1]|_=>[]
@[simp] def qoz:Nat→List Nat|0=>[0]|1=>[0,2]|2|4=>[0,2,4]|3|9=>[2]|5|6|11=>[0,2,4,12,13]|7=>[0,2,4,5,12,13]|8|10=>[0,2,4,5,6,12,13]|12=>[2,4]|_=>[]
@[simp] def qoy:Nat→List Nat|0|1=>[0]|2=>[0,4,5]|4=>[4]|_=>[]
@[simp] def qow:Nat→List Nat|0=>[0]|1=>[0,2]|2|4=>[0,2,4]|3|11=>[2,4]|5|6|7=>[0,2,4,5]|8|10=>[0,2,4,5,6,7]|9=>[2]|_=>[]
@[simp] def qov:Nat→List Nat|0|1|3=>[0]|_=>[]
@[simp] def qou:Nat→List Nat|0|1=>[0]|2=>[0,3]|3|4|7=>[0,3,9,10,11]|5|6=>[0,3,5,9,10,11]|8|9=>[3]|_=>[]
@[simp] def qot:Nat→List Nat|0|1=>[0,1]|2=>[6,7]|3=>[7]|4=>[6]|_=>[]
@[simp] def qos:Nat→List Nat|0|1=>[0]|_=>[]
@[simp] def qor:Nat→List Nat|0|1=>[0]|2=>[4,5]|3=>[5]|4=>[4]|5=>[4,6]|6=>[6]|_=>[]
@[simp] def qoq:Nat→List Nat|0|1=>[0]|2=>[4,5]|3=>[5]|4=>[4]|5=>[4,6,7]|_=>[]
def qxS:=KF [[0],[0],[0,3],[0,3,4],[0,3,4,5],[0,3,5],[0,3,4,5],[0,3,4,5,6],[4]]
def qxR:=KF [[0],[1],[1,3],[6,7],[3,6,7],[3,5,6,7],[3,6,7],[3]]
@[simp] def qop:Nat→List Nat|0|1=>[0]|2=>[3]|_=>[]
@[simp] def qoo:Nat→List Nat|0=>[0]|1=>[1]|2=>[1,3]|3|4|5=>[1,3,4]|6=>[3]|_=>[]
@[simp] def qon:Nat→List Nat|0|1=>[0]|2=>[0,3]|3|4|5|6=>[0,3,4]|7=>[3]|_=>[]
@[simp] def qom:Nat→List Nat|0|1=>[0]|_=>[]
@[simp] def qol:Nat→List Nat|0|1|3=>[0,1]|4|5|6=>[0,1,5]|_=>[]
@[simp] def qok:Nat→List Nat|0|1|2|10|11=>[0]|3=>[0,3]|4|5|9=>[0,3,16,17]|6=>[0,3,4,16,17]|7=>[0,3,4,5,6,16,17]|8=>[0,4,5,16,17]|_=>[]
def qxQ:=KF [[0],[0],[0,3],[0,3,4],[0,3,4,5],[0,4,5],[0,3,4,5],[0,3,4,5,6,7],[0,3,5,6],[0,3,5,6],[3]]
@[simp] def qoj:Nat→List Nat|0|1|3=>[0,1]|_=>[]
@[simp] def qoi:Nat→List Nat|0=>[0]|1=>[0,2]|_=>[]
@[simp] def qoh:Nat→List Nat|0=>[0,1]|1=>[1,2]|2|3=>[1,2,5]|4|5|6|7|8|9|10|11|12=>[1,2,5,6]|13=>[1,5,6]|14|15=>[1,5]|16=>[5]|_=>[]
@[simp] def qog:Nat→List Nat|0|1=>[0]|_=>[]
@[simp] def qoe:Nat→List Nat|0=>[0,1]|1=>[0,1,4]|2=>[0,1,4,5]|_=>[]
@[simp] def qod:Nat→List Nat|0|1=>[0]|_=>[]
def qxP:=KF [[0,1,2,3,4],[0,1,2,3,9],[0,2,3,9,12,13],[13],[0,2,3,9,12],[],[0,2,3,9,12],[0,2,3,9,12,14],[0,2,3,9,12,14,15],[0,2,3,9,12,14,15,16],[0,2,3,9,12,14,15,16,17],[0,2,3,9,12,14,15,16,17,18],[0,2,3,9,12,14,15,16,17,18],[0,2,3,9,12,14,15,16,17,18],[0,2,3,9,12,14,15,16,17,18,19],[0,2,3,9,12,14,15,16,17,18,19],[0,2,3,9,12,14,15,16,17,18,19,20],[0,2,3,9,12,14,15,16,17,18,19,20],[0,2,3,9,12,14,15,16,17,18,19,20],[0,2,3,9,14,15,16,17],[0,2,3,9,14,15,16,17,21],[0,2,3,9,14,15,16,17,21],[0,2,3,9,14,15,16,17,21],[0,2,3,9,14,15,16,17,21,22],[0,2,3,9,14,15,16,17],[0,2,3,9,14,15,16,17,23],[0,2,3,9,14,16,23,24],[0,2,3,9,14,16,23,24],[0,2,3,9,14,16,23,24,26],[0,2,3,9,14,16,23,24,25,26],[0,2,3,9,14,16,23,24,25,26],[0,2,3,9,14,16,23,24,26],[0,2,3,9,14,16,23,24,26,27],[0,2,3,9,14,16,23,24,26,27],[0,2,3,9,14,16,23,24,26,27],[0,2,3,9,14,16,23,24,26,27,28],[0,2,3,9,14,16,23,24,26,27,28],[0,2,3,9,14,16,23,24,26,27,28],[0,2,3,9,14,16,23,24,26,27,28],[0,2,3,9,14,16,23,24,26,27,28],[0,2,3,9,14,16,23,24,26,27,28],[0,2,3,9,14,23,24,26],[0,14],[],[0,2,3,9,23,24,26],[0,2,3,9,23,24],[0,2,3,9,23,24],[0,2,3,9,23,24],[0,9,23,24],[23]]
@[simp] def qoc:Nat→List Nat|0|1|4=>[0,1]|2=>[0,1,6]|3=>[6]|5|6=>[7]|_=>[]
@[simp] def qob:Nat→List Nat|0|1=>[0]|2=>[0,4,5]|3|4|8=>[4,5,11,12,13]|5|6|7=>[4,5,7,11,12,13]|9=>[4,5]|_=>[]
@[simp] def qoa:Nat→List Nat|0|1|2|4|5=>[0]|_=>[]
@[simp] def qnZ:Nat→List Nat|_=>[]
@[simp] def qnY:Nat→List Nat|0|1=>[0]|_=>[]
@[simp] def qnX:Nat→List Nat|0|1|3|5|7|10=>[0,1,2]|8|9=>[0,1,2,7]|_=>[]
@[simp] def qnW:Nat→List Nat|0|1=>[0]|_=>[]
@[simp] def qnU:Nat→List Nat|0|1=>[0]|_=>[]
@[simp] def qnT:Nat→List Nat|0=>[0,1]|1=>[1,2]|2|3|4|5=>[1,2,5]|6|7=>[2,5]|_=>[]
@[simp] def qnS:Nat→List Nat|0|1=>[0,1]|_=>[]
@[simp] def qnR:Nat→List Nat|0|1|2=>[0,1]|3=>[0]|_=>[]
@[simp] def qnQ:Nat→List Nat|0|1|2=>[0,1]|3=>[0]|_=>[]
@[simp] def qnP:Nat→List Nat|0|1|3|5|7|8=>[0,1,2,3]|4=>[0,3]|6=>[0,1,2]|9|10=>[0,1,2,3,9]|11|12|16=>[0,1,2,3,9,10]|13|14|15=>[0,1,2,3,9,10,11]|17=>[0,9,10]|18=>[9,10]|_=>[]
@[simp] def qnO:Nat→List Nat|0|1=>[0,1]|_=>[]
@[simp] def qnN:Nat→List Nat|0|1=>[0,1,2]|2|3=>[0,1,2,8,9]|4=>[8]|_=>[]
@[simp] def qnM:Nat→List Nat|0|1=>[0]|2|3|4=>[0,3]|5=>[3]|_=>[]
@[simp] def qnL:Nat→List Nat|0|1=>[0]|2|9=>[0,4]|3|4|5=>[0,4,5]|6|8=>[0,4,5,6]|_=>[]
@[simp] def qnJ:Nat→List Nat|0|1=>[0]|_=>[]
@[simp] def qnI:Nat→List Nat|0|1=>[0]|2=>[0,4,5]|3=>[5]|4=>[0,4]|5=>[0,4,6]|_=>[]
@[simp] def qnH:Nat→List Nat|0|1=>[0]|2=>[0,4]|3|4|6=>[0,4,5]|5|14|19=>[5]|7=>[0,4,5,6,7]|8=>[5,7]|9=>[0,4,5,6]|10|11|18=>[0,4,5,40,41,42]|12|13|15=>[0,4,5,9,40,41,42]|16=>[0,4,5,10,40,41,42]|17=>[5,10]|_=>[]
@[simp] def qnG:Nat→List Nat|0|1=>[0]|2=>[0,4,5,6]|3=>[6]|4=>[0,4,5]|5=>[0,4,5,7]|_=>[]
@[simp] def qnF:Nat→List Nat|0|1=>[0]|2=>[0,4]|3=>[0,4,5]|4|5|7=>[0,4,5,6,7]|6|8|16|18|21=>[4]|9=>[0,4,5,6]|10=>[0,4,5,6,8,9]|11=>[4,9]|12|20=>[0,4,5,6,8]|13|14|15|17|19=>[0,4,5,6,8,10]|_=>[]
@[simp] def qnE:Nat→List Nat|0=>[0,1]|1|3=>[0,1,4]|2=>[4]|_=>[]
@[simp] def qnD:Nat→List Nat|0|1=>[0,1]|_=>[]
@[simp] def qnC:Nat→List Nat|0=>[0,1]|1=>[0,1,4]|2=>[0,4,6,7]|3=>[4,7]|4=>[0,4,6]|_=>[]
@[simp] def qnA:Nat→List Nat|0|1|3=>[0]|_=>[]
def qxO:=KF [[0,1],[0,1],[],[0,1],[0,1,5],[0,1,6],[0,1,5,6],[0,1,5,6],[0,5]]
def qxN:=KF [[0],[0],[],[0],[0,4],[0,5],[0,4,5],[0,4,5],[0,4,5,7],[7],[0,4,5],[0,4,5,8],[0,4,5,8],[0,4,5,8],[0,4,5,8],[0,4,5,8],[0,4,5,8,9],[0,4,5,8,9],[0,4,5,8,9],[0,4,5,8],[4],[],[4]]
def qxM:=KF [[0,1],[0,1],[0,1,5],[0,6],[0,5,6],[0,5,6],[5]]
@[simp] def qn9:Nat→List Nat|0|1=>[0]|2|3|4|5|11=>[0,3]|6|7|8=>[0,3,4]|9|10=>[0,3,4,5]|12=>[3]|_=>[]
@[simp] def qn8:Nat→List Nat|0=>[0,1]|1=>[0,3]|2|7=>[0,3,5]|3|4|5=>[0,3,5,6]|6=>[6]|8=>[0,3,5,7]|9=>[0,3,5,7,8]|10|12|13=>[0,3,5,8,9]|11=>[0,3,5,8,9,10]|14=>[0,3,8]|15|17=>[0,8,11]|16=>[0,8,11,12]|18=>[0]|_=>[]
@[simp] def qn7:Nat→List Nat|0=>[0,1,2]|1=>[0,2,4]|2=>[2,4]|3=>[2]|_=>[]
@[simp] def qn6:Nat→List Nat|0|1=>[0,1]|2=>[0,1,5]|3|4=>[0,5]|5=>[5]|_=>[]
def qxL:=KF [[0],[1],[1,3],[1,3],[4],[1,3,4],[1,3,4],[3]]
@[simp] def qn5:Nat→List Nat|0|1=>[0]|2=>[0,3]|3|4|5=>[0,3,4]|6=>[3]|_=>[]
@[simp] def qn3:Nat→List Nat|0|1=>[0,1,2,3,4]|2|7=>[0,1,2,3,4,12,13]|3|4|6=>[0,1,2,3,4,12,13,14]|5=>[0,1,2,3,4,13,14]|8=>[0,1,2,3,4,13]|9|10|11=>[0,1,2,3,4,13,15]|12|13=>[0,1,2,4,13,15]|14=>[0,1,2,4,12,15]|15=>[0,1,2,4,12]|16=>[1,2,12]|_=>[]
@[simp] def qn2:Nat→List Nat|0=>[0,1,2]|1|2|3=>[0,1,2,6]|_=>[]
@[simp] def qn1:Nat→List Nat|0|1=>[0,1]|3=>[1]|4|5|8=>[11,12,13]|6=>[6,11,12,13]|_=>[]
@[simp] def qn0:Nat→List Nat|0|1=>[0,1]|2|3|6=>[1,10,11,12]|4=>[1,6,10,11,12]|5=>[6]|_=>[]
@[simp] def qnz:Nat→List Nat|0|1|3=>[0]|_=>[]
def qxK:=KF [[0,1],[0,1],[0,1,5],[0,1,5,6],[0,1,6],[0,1,5,6],[0,1,5,6],[5]]
def qxJ:=KF [[0],[0],[0,3],[0,3,4],[0,4],[0,3,4],[3]]
@[simp] def qny:Nat→List Nat|0|1=>[0,1]|_=>[]
@[simp] def qnx:Nat→List Nat|0|1|3|4|5=>[0,1]|2=>[0]|6=>[0,1,5]|7|9|10=>[0,1,5,6]|8=>[5]|_=>[]
@[simp] def qqk:Nat→List Nat|0|1=>[0,1]|_=>[]
@[simp] def qqj:Nat→List Nat|0|1=>[0,1]|_=>[]
@[simp] def qqi:Nat→List Nat|0|1|3=>[0,1,2]|4=>[0,1,2,8]|6|7|9|11|14|17|20|21|23|25|26|27|29|31=>[0,1,2,8,9]|8|10|12|13|15|16|18|19=>[0,2,8,9]|22=>[0,1,8,9]|28|30=>[0,1,2,8,9,85]|32=>[0,1,2,8,9,10]|33=>[0,1,8,9,10,11]|34=>[0,1,8,9,10,11,12]|35=>[0,1,8,9,10,11,12,13]|36|37|55=>[1,8,9,10,11,12,13,99,100,101]|38|40|42|43|44|45=>[1,8,9,10,11,12,13,15,99,100,101]|41=>[1,8,9,10,11,13,99,100,101]|46|48|50|51=>[1,8,9,10,11,12,13,16,99,100,101]|49|53=>[11]|52=>[1,8,9,10,11,12,13,17,99,100,101]|54=>[1,8,9,10,11,12,17,99,100,101]|56=>[9,12,13]|58=>[13]|_=>[]
@[simp] def qqh:Nat→List Nat|0|1=>[0,1,2,3,4]|2|4|6=>[0,1,2,3,4,11]|3|5=>[0,1]|7=>[0,1,2]|8=>[0,1,3,4,11]|9=>[0,1,3]|10=>[4]|_=>[]
@[simp] def qqg:Nat→List Nat|0=>[0]|1|3|5=>[0,2]|2|4|8|10|12|14=>[2]|6=>[0,2,4]|7|9|11|13=>[0,2,4,5,6]|15|18=>[2,4,5]|16=>[2,4,5,7]|17=>[2,7]|19=>[2,4,8]|20=>[2,8]|21=>[2,4]|_=>[]
@[simp] def qqf:Nat→List Nat|0=>[0]|1=>[1]|2=>[1,4]|4=>[4]|_=>[]
@[simp] def qqe:Nat→List Nat|0=>[0]|1=>[0,2]|_=>[]
@[simp] def qqd:Nat→List Nat|0|1=>[0,1]|_=>[]
@[simp] def qqb:Nat→List Nat|0|1|3=>[0,1]|4=>[0,6,7]|5=>[6,7]|_=>[]
@[simp] def qqa:Nat→List Nat|0|1|4=>[0,1]|2=>[0,1,5]|_=>[]
@[simp] def qpZ:Nat→List Nat|0=>[0]|1|3|5=>[0,2]|2|4=>[2]|6=>[0,2,5,6]|7|11|13|15|17=>[0,2,5,6,7,8]|8|10=>[2,5,6,7]|9=>[2,5,6,7,9]|12|14|16|18|21=>[2,5,6]|19=>[2,5,6,9]|20=>[2,9]|_=>[]
@[simp] def qpY:Nat→List Nat|0=>[0]|1|3=>[1]|_=>[]
@[simp] def qpX:Nat→List Nat|0|1=>[0,1]|_=>[]
@[simp] def qpW:Nat→List Nat|0=>[0,1]|1|4=>[0,1,4]|2=>[0,1,4,6]|3=>[4,6]|_=>[]
def qyd:=KF [[0,1],[0,1,4],[0,4,6,7],[4,7],[0,4,6],[4],[0,4,6],[0,4,6,8],[0,4,6,8,9],[0,4,6,8,9,10],[0,10],[0,4,6,8,9,10],[0,4,6,8,9,10,11,12,13],[4,13],[0,4,6,8,9,10,11,12],[4],[0,4,6,8,9,10,11],[0,4,6,8,9,10,11,14,15],[4,15],[0,4,6,8,9,10,11,14],[0,4,6,8,9,10,14],[4,6,8,9],[4],[4,8]]
@[simp] def qpV:Nat→List Nat|0|1|8=>[0,1]|2|3|4=>[0]|5=>[0,5]|6=>[0,5,6]|7=>[5,6]|9=>[8]|_=>[]
@[simp] def qpT:Nat→List Nat|0|1|3=>[0,1]|_=>[]
@[simp] def qpS:Nat→List Nat|0=>[0,1]|1=>[2,3,4]|2=>[4,5]|_=>[]
def qyc:=KF [[0,1],[0,1],[],[0,1],[1,5],[],[5],[5]]
@[simp] def qpR:Nat→List Nat|0=>[0]|1|3|5=>[1]|_=>[]
@[simp] def qpQ:Nat→List Nat|0=>[0]|1=>[1]|_=>[]
@[simp] def qpP:Nat→List Nat|0=>[0]|1=>[0,2]|_=>[]
@[simp] def qpN:Nat→List Nat|0=>[0]|1=>[1]|_=>[]
@[simp] def qpM:Nat→List Nat|0|1=>[0,1,2,3,4]|2=>[0,1,2,3,4,11,12]|3|4|5=>[0,1,2,3,4,11,12,13]|6|7=>[0,1,2,3,4,11,13]|8=>[0,2,3,4,11,12]|9|11=>[0,3,11,12,14]|10|12=>[0,3,11,14]|13=>[11]|_=>[]
@[simp] def qpL:Nat→List Nat|0|1|6=>[0,1]|2|3|4=>[0,1,5]|5=>[0,5]|7=>[0,1,6]|8=>[0,1,6,7]|9|10|11=>[0,1,7,8]|12=>[7]|_=>[]
@[simp] def qpK:Nat→List Nat|0|1|3=>[0,1,2]|4=>[0,1,2,8]|5|6|7=>[0,1,8,9]|8=>[8]|_=>[]
def qyb:=KF [[0,1],[1,2],[1,5,6],[1,7],[1,7,8],[1,7,8],[1,7,8,9],[1,7,8,9],[1,7,8,9],[1,7,8],[1,7,8],[7,10],[7,10],[7,10],[7],[7],[7]]
@[simp] def qpJ:Nat→List Nat|0|1=>[0]|2=>[0,3]|3|5=>[0,3,4,5]|4|40|41|42=>[4,5]|6|7|8|9|10|11|12|13|14|15|16|17|18|19|20|21|22|23|24|25|26|27=>[0,3,4,5,6]|28|29|30|31|32|33|34|35|36|37|38|39=>[3,4,5]|_=>[]
@[simp] def qpI:Nat→List Nat|0|1|3|5=>[0]|_=>[]
@[simp] def qpH:Nat→List Nat|0=>[0]|1=>[1]|_=>[]
@[simp] def qpG:Nat→List Nat|0|1|3=>[0]|4|5|8=>[0,13,14]|6=>[0,3,13,14]|_=>[]
@[simp] def qpE:Nat→List Nat|0|1=>[0]|_=>[]
@[simp] def qpD:Nat→List Nat|0|1=>[0,1]|_=>[]
@[simp] def qpC:Nat→List Nat|0|1=>[0,1]|_=>[]
@[simp] def qpA:Nat→List Nat|0|1=>[0,1]|_=>[]
@[simp] def qp9:Nat→List Nat|0=>[0]|1=>[1,2]|2=>[1,2,3]|3|4=>[1,2,3,4]|5|10|16=>[1,2,3,4,5]|6|7|9=>[1,2,3,4,5,22,23,24]|8=>[1,2,3,4,5,7,22,23,24]|11|12|14|15=>[1,2,3,4,5,38,39,40]|13=>[1,2,3,4,5,9,38,39,40]|17=>[1,2,3,5]|18=>[2,3]|_=>[]
@[simp] def qp8:Nat→List Nat|0=>[0,1,2,3]|1|3|5=>[1,2,3,4]|_=>[]
@[simp] def qp7:Nat→List Nat|0|1=>[0]|_=>[]
@[simp] def qp6:Nat→List Nat|0=>[0,1]|1=>[2,3,4]|2=>[4,5]|_=>[]
@[simp] def qp5:Nat→List Nat|0=>[0]|1=>[0,2]|2|5|9|12=>[0,2,4]|3=>[0,2,4,5]|4=>[0,2,4,5,7]|6|7|8=>[0,2,4,9]|10=>[0,2,4,10]|11=>[0,2,4,10,12]|_=>[]
@[simp] def qp4:Nat→List Nat|0|1|3|5=>[0,1,2,3]|_=>[]
@[simp] def qp3:Nat→List Nat|0|1=>[0]|_=>[]
@[simp] def qp2:Nat→List Nat|0|1=>[0,1]|_=>[]
def qya:=KF [[0,1],[0,1,4],[4,6,7],[4,7],[4,6],[4],[4,6],[4,6,8],[4,6,8,9],[6,9],[4,6,8,9],[4,8]]
@[simp] def qp0:Nat→List Nat|0=>[0,1]|1|4=>[0,1,4]|2=>[0,1,4,6]|3=>[4,6]|_=>[]
@[simp] def qpz:Nat→List Nat|0|1=>[0,1]|2=>[0,7,8]|3=>[8]|4=>[0,7]|6=>[7]|_=>[]
@[simp] def qpy:Nat→List Nat|0=>[0]|1=>[0,2]|2|3|4|5|7|9=>[0,2,4]|6|8|10=>[2]|_=>[]
@[simp] def qpx:Nat→List Nat|0=>[0,1,2,3,4]|1|2|3=>[0,1,2,3,4,10,11]|4=>[0,1,2,3,4,10,11,12]|5|6|7|8|17=>[0,1,2,3,4,10,11,12,13]|9=>[0,1,2,3,4,10,11,12,13,14]|10=>[0,1,2,3,4,10,11,12,13,14,15]|11|12|13|14=>[0,1,3,4,10,11,12,13,14,15,16]|15|16|23|24=>[0,1,3,4,10,11,12,13]|18|19|20=>[0,1,3,4,10,11,12,13,17]|21=>[0,1,3,4,10,11,12,13,17,18]|22=>[0,3,4,10,11,12,13,17,18]|25=>[0,3,4,10,11,12,13]|26|27|28=>[0,4,10,11,12,13]|29=>[0,11,12,13]|30=>[10,12,13]|_=>[]
@[simp] def qpv:Nat→List Nat|0=>[0,1,2]|_=>[]
def qxZ:=KF [[0,1],[0,1,4],[0,4,5],[0,4,5,6],[0,4,5,6],[0,4,5,6],[0,4,5,6,7],[0,4,5,6,7,32,33,34],[0,4,5,6,7,32,33,34],[0,4,5,6,7,9,32,33,34],[0,4,5,6,7,9,10,32,33,34],[0,4,5,6,7,10,32,33,34],[0,4,5,6,7,10,32,33,34],[0,4,5,6,7,10,11,12,32,33,34],[0,4,5,6,7,10,11,32,33,34],[0,4,5,6,7,10,32,33,34],[0,32,33,34],[4,5,6,7],[4,6],[4,6]]
@[simp] def qpu:Nat→List Nat|0|1|7=>[0]|2|3|4=>[0,3]|5=>[0,3,4]|_=>[]
@[simp] def qpt:Nat→List Nat|0=>[0]|1=>[1]|_=>[]
@[simp] def qps:Nat→List Nat|0|1=>[0,1]|_=>[]
@[simp] def qpq:Nat→List Nat|0=>[0,1]|1=>[1,2,4]|2=>[1,4,5,6,7,8]|3|4|5|6|7|8|9|10|11|12|13|14|15|16|17|18=>[1,4,5,6,7,8,9]|19=>[4,5,6,7,8]|_=>[]
@[simp] def qpp:Nat→List Nat|0|1=>[0,1]|2=>[0,1,5]|3|4|5|6|7=>[0,1,5,6]|8=>[5]|_=>[]
@[simp] def qpo:Nat→List Nat|0|1=>[0,1]|_=>[]
@[simp] def qpm:Nat→List Nat|0|1=>[0,1]|_=>[]
@[simp] def qpl:Nat→List Nat|0|1=>[0,1]|2=>[4]|_=>[]
@[simp] def qpk:Nat→List Nat|0|1|3=>[0,1,2]|4=>[0,1,2,8]|5|6|7=>[0,1,8,9]|8=>[8]|_=>[]
@[simp] def qpj:Nat→List Nat|0|1=>[0]|_=>[]
@[simp] def qpi:Nat→List Nat|0|1=>[0]|_=>[]
@[simp] def qph:Nat→List Nat|0|1=>[0,1,2]|2=>[2,3,4]|3=>[2,3]|_=>[]
@[simp] def qpg:Nat→List Nat|0=>[0,1]|_=>[]
@[simp] def qpf:Nat→List Nat|0=>[0,1]|1=>[0,1,4]|2=>[4,6,7]|3=>[4,7]|4=>[4,6]|5=>[4,8]|_=>[]
@[simp] def qpe:Nat→List Nat|0|1=>[0]|_=>[]
@[simp] def qpd:Nat→List Nat|0=>[0,1]|1=>[0,1,4]|2=>[0,1,4,5]|3|4|5=>[0,1,4,5,6]|6=>[4,5]|_=>[]
@[simp] def qpc:Nat→List Nat|0|1=>[0,1]|2=>[5]|_=>[]
@[simp] def qpb:Nat→List Nat|0|1=>[0,1,2]|2=>[0,1,2,8,9]|3=>[9]|4=>[0,1,2,8]|6=>[0,1,8]|_=>[]
def qxX:=KF [[0,1],[0,1,4],[4,6,7],[4,7],[4,6],[4],[4,6],[4,6,8],[4],[4,6,8],[4,6,8,9],[4,6,8,9],[4,6,8,9],[4,6,8],[4,6,8,10],[6,10],[4,6,8,10],[4,6,8,10,11],[4,6,8,10,11],[4],[4,8]]
@[simp] def qpa:Nat→List Nat|0=>[0,1]|1|4=>[0,1,4]|2=>[0,1,4,6]|3=>[4,6]|_=>[]
@[simp] def qoY:Nat→List Nat|0|1=>[0,1]|_=>[]
@[simp] def qoX:Nat→List Nat|0=>[0,1]|1|2=>[0,1,4]|3=>[4,5,6]|4=>[4,5]|_=>[]
@[simp] def qoW:Nat→List Nat|0=>[0,1]|1=>[0,1,4]|2=>[0,4,5]|3|4=>[4,5]|_=>[]
@[simp] def qoU:Nat→List Nat|0=>[0]|1=>[0,2]|2=>[2,4,5,6]|3|5=>[2]|4|6=>[2,4,5]|_=>[]
@[simp] def qoT:Nat→List Nat|0|1=>[0]|2=>[0,3]|3|4|6=>[3,6,7,8]|5=>[3,5,6,7,8]|7=>[3]|_=>[]
@[simp] def qoS:Nat→List Nat|0|1=>[0,1]|_=>[]
@[simp] def qoR:Nat→List Nat|0|1=>[0]|_=>[]
@[simp] def qoQ:Nat→List Nat|0|1=>[0,1,2,3,4]|2=>[0,1,2,3,4,12,13]|3=>[0,1,2,4,12,13,14]|4=>[13]|5=>[0,1,2,4,12,14]|7=>[0,1,4,12,14]|9=>[0,1,12]|_=>[]
def qxW:=KF [[0],[0],[0,3],[0,3,4],[0,4],[0,3,4],[0,3,4,5],[3]]
@[simp] def qoP:Nat→List Nat|0=>[0,1]|1|14=>[0,1,4]|2|4|6|8|10|12=>[0,1,4,6]|3|5|7|9|11|13=>[4]|_=>[]
@[simp] def qoN:Nat→List Nat|0=>[0,1]|1=>[0,1,4]|2=>[4,6,7]|3=>[4,7]|4|6=>[4,6]|5=>[4]|_=>[]
def qxV:=KF [[0,1],[0,1,4],[4,6,7],[4,7],[4,6],[4,6,8],[4,6,8,9],[4,8,9],[4,8,9,10],[8,10],[4,8,9,10],[4,9],[4],[4,9],[4,9,11],[4,9,11],[4,9,11],[4],[4,9]]
@[simp] def qoM:Nat→List Nat|0=>[0,1]|1|2=>[0,1,4]|3=>[4,5,6]|4=>[4,5]|_=>[]
@[simp] def qoL:Nat→List Nat|0|1=>[0,1]|_=>[]
@[simp] def qoK:Nat→List Nat|0|1=>[0,1]|2|3=>[0,1,7]|4=>[0]|_=>[]
@[simp] def qoJ:Nat→List Nat|0|1|3=>[0]|4|5|9=>[0,24,25]|6=>[0,3,24,25]|7=>[0,4,24,25]|_=>[]
def qxU:=KF [[0],[0],[0,3],[0,4],[0,4],[0,4],[0,4],[0,4],[0,4],[0,4,5],[4,5],[4],[4]]
@[simp] def qoH:Nat→List Nat|0=>[0,1]|1=>[0,1,4]|2|4|6|7=>[0,1,4,6]|3|5|10|12|14|16=>[4]|8=>[0,1,4,6,7]|9|11|13|15=>[4,6,7]|17=>[4,7]|_=>[]
@[simp] def qoG:Nat→List Nat|0=>[0,1]|1=>[0,1,4]|2=>[4,6,7,8]|3=>[4,8]|4=>[4,6,7]|_=>[]
@[simp] def qoF:Nat→List Nat|0=>[0,1,2]|1=>[0,2,4]|2=>[2,4]|3=>[2]|_=>[]
@[simp] def qoE:Nat→List Nat|0|1|5|7|14=>[0,1]|2|4|6|10|12|13|15|36=>[0,1,5]|16=>[0,1,5,6]|17=>[0,1,5,6,7]|18=>[0,1,5,6,7,8]|19=>[0,1,5,6,7,8,9]|20|21|22|26|28|29|30=>[0,1,5,6,7,8,9,10]|23|25=>[0,1,5,6,7,8,9,10,11]|27=>[8]|31=>[0,1,8]|32|33=>[8,12]|37=>[0,1,5,13]|38=>[0,1,5,13,14]|39=>[0,1,5,13,14,15]|40=>[0,1,5,13,14,15,16]|41|42|43|46|48|49|50=>[0,1,5,13,14,15,16,17]|44|45=>[0,1,5,13,14,15,16,17,18]|47=>[15]|51=>[0,1,15]|52|54=>[15,19]|_=>[]
@[simp] def qoD:Nat→List Nat|0=>[0,1]|1=>[0,1,4]|2=>[0,1,4,6]|3=>[0,4,6,8]|4=>[0,6,8]|5=>[0,8]|_=>[]
@[simp] def qoC:Nat→List Nat|0=>[0]|1|2|3|4|5|6|7|8|9|10|11|12|13|14|15|16|17|18|19=>[0,2,3,4]|_=>[]
@[simp] def qoB:Nat→List Nat|0=>[0]|1|2|3|4|5|6|7|8|9|10|11|12|13|14|15=>[0,2,3,4]|_=>[]
def qxT:=KF [[0,1,2,3],[0,1,2,3],[0,1,2,3,11,12],[12],[0,1,2,3,11],[],[0,1,3,11],[],[0,1,3,11],[3,13],[3,13],[3,13,14,49,50],[3,13,14,49,50],[3,13,14,15,49,50],[3,13,14,16,49,50],[3,13,49,50],[3,13,14]]
@[simp] def qoA:Nat→List Nat|0=>[0,1]|1=>[1,2]|2=>[1,5]|3=>[5]|_=>[]
@[simp] def qo9:Nat→List Nat|0|1=>[0,1]|_=>[]
@[simp] def qo7:Nat→List Nat|0|1=>[0,1]|2=>[0,5]|_=>[]
@[simp] def qo6:Nat→List Nat|0=>[0]|1=>[1]|2=>[1,3]|3=>[3,5]|_=>[]
@[simp] def qo5:Nat→List Nat|0|1|2|5|6|8=>[0,1]|3|4=>[0,1,4]|7=>[0,1,5]|_=>[]
@[simp] def qo4:Nat→List Nat|0|1=>[0]|2|3|4=>[0,3]|5=>[0,4]|6=>[4,6]|7|8|9=>[6]|_=>[]
@[simp] def qo3:Nat→List Nat|0|1|2=>[0,1]|_=>[]
@[simp] def qo2:Nat→List Nat|0=>[0,1]|1=>[0,1,4,5,6,7]|2|3|4|5|6|7|8|9|10|11|12|13=>[0,4,5,6,7,24,25]|14=>[0,4,5,6,7]|_=>[]
@[simp] def qo0:Nat→List Nat|0|1=>[0,1]|2=>[0,5]|_=>[]
def qye:Nat→Nat→Option (List Nat × Nat)
 | 3=>KG kl3
 | 5=>KG kl5
 | 6=>KG kl6
 | 7=>KG kl7
 | 8=>KG kl8
 | 9=>KG kl9
 | 10=>KG qql
 | 11=>KG qqc
 | 12=>KG qpU
 | 13=>KG qpO
 | 14=>KG qpF
 | 15=>KG qpB
 | 17=>KG qp1
 | 18=>KG qpw
 | 19=>KG qpr
 | 20=>KG qpn
 | 21=>qxY
 | 22=>KG qoZ
 | 23=>KG qoV
 | 24=>KG qoO
 | 25=>KG qoI
 | 26=>KG qo8
 | 27=>KG qo1
 | 28=>KG qoz
 | 29=>KG qoy
 | 30=>KG qow
 | 31=>KG qov
 | 32=>KG qou
 | 33=>KG qot
 | 34=>KG qos
 | 35=>KG qor
 | 36=>KG qoq
 | 37=>qxS
 | 38=>qxR
 | 39=>KG qop
 | 40=>KG qoo
 | 41=>KG qon
 | 42=>KG qom
 | 43=>KG qol
 | 44=>KG qok
 | 45=>qxQ
 | 46=>KG qoj
 | 47=>KG qoi
 | 48=>KG qoh
 | 49=>KG qog
 | 50=>KG qoe
 | 51=>KG qod
 | 52=>qxP
 | 53=>KG qoc
 | 54=>KG qob
 | 55=>KG qoa
 | 56=>KG qnZ
 | 57=>KG qnY
 | 58=>KG qnX
 | 59=>KG qnW
 | 60=>KG qnU
 | 61=>KG qnT
 | 62=>KG qnS
 | 63=>KG qnR
 | 64=>KG qnQ
 | 65=>KG qnP
 | 66=>KG qnO
 | 67=>KG qnN
 | 68=>KG qnM
 | 69=>KG qnL
 | 71=>KG qnJ
 | 72=>KG qnI
 | 73=>KG qnH
 | 74=>KG qnG
 | 75=>KG qnF
 | 76=>KG qnE
 | 77=>KG qnD
 | 79=>KG qnC
 | 80=>KG qnA
 | 81=>qxO
 | 82=>qxN
 | 83=>qxM
 | 84=>KG qn9
 | 85=>KG qn8
 | 86=>KG qn7
 | 87=>KG qn6
 | 88=>qxL
 | 89=>KG qn5
 | 90=>KG qn3
 | 91=>KG qn2
 | 92=>KG qn1
 | 93=>KG qn0
 | 94=>KG qnz
 | 95=>qxK
 | 96=>qxJ
 | 97=>KG qny
 | 99=>KG qnx
 | 100=>KG qqk
 | 101=>KG qqj
 | 102=>KG qqi
 | 103=>KG qqh
 | 106=>KG qqg
 | 107=>KG qqf
 | 108=>KG qqe
 | 109=>KG qqd
 | 110=>KG qqb
 | 111=>KG qqa
 | 112=>KG qpZ
 | 113=>KG qpY
 | 114=>KG qpX
 | 115=>KG qpW
 | 116=>qyd
 | 117=>KG qpV
 | 124=>KG qpT
 | 125=>KG qpS
 | 126=>qyc
 | 127=>KG qpR
 | 128=>KG qpQ
 | 129=>KG qpP
 | 130=>KG qpN
 | 131=>KG qpM
 | 132=>KG qpL
 | 133=>KG qpK
 | 134=>qyb
 | 135=>KG qpJ
 | 136=>KG qpI
 | 137=>KG qpH
 | 138=>KG qpG
 | 144=>KG qpE
 | 146=>KG qpD
 | 147=>KG qpC
 | 161=>KG qpA
 | 162=>KG qp9
 | 163=>KG qp8
 | 164=>KG qp7
 | 165=>KG qp6
 | 166=>KG qp5
 | 167=>KG qp4
 | 168=>KG qp3
 | 169=>KG qp2
 | 170=>qya
 | 171=>KG qp0
 | 172=>KG qpz
 | 173=>KG qpy
 | 177=>KG qpx
 | 183=>KG qpv
 | 184=>qxZ
 | 185=>KG qpu
 | 188=>KG qpt
 | 189=>KG qps
 | 190=>KG qpq
 | 191=>KG qpp
 | 192=>KG qpo
 | 206=>KG qpm
 | 207=>KG qpl
 | 208=>KG qpk
 | 209=>KG qpj
 | 210=>KG qpi
 | 211=>KG qph
 | 212=>KG qpg
 | 213=>KG qpf
 | 214=>KG qpe
 | 215=>KG qpd
 | 216=>KG qpc
 | 217=>KG qpb
 | 218=>qxX
 | 219=>KG qpa
 | 220=>KG qoY
 | 228=>KG qoX
 | 229=>KG qoW
 | 230=>KG qoU
 | 231=>KG qoT
 | 232=>KG qoS
 | 236=>KG qoR
 | 237=>KG qoQ
 | 238=>qxW
 | 239=>KG qoP
 | 240=>KG qoN
 | 243=>qxV
 | 244=>KG qoM
 | 245=>KG qoL
 | 246=>KG qoK
 | 247=>KG qoJ
 | 248=>qxU
 | 250=>KG qoH
 | 251=>KG qoG
 | 252=>KG qoF
 | 253=>KG qoE
 | 254=>KG qoD
 | 255=>KG qoC
 | 256=>KG qoB
 | 257=>qxT
 | 258=>KG qoA
 | 259=>KG qo9
 | 262=>KG qo7
 | 263=>KG qo6
 | 264=>KG qo5
 | 265=>KG qo4
 | 268=>KG qo3
 | 269=>KG qo2
 | 270=>KG qo0
 | _=>fun _=>none
def q06:Nat→Nat→List Nat
 | 21,8=>[11]
 | 52,15=>[17]
 | _,_=>[]
def q03:Nat→Nat→List Nat
 | 52,15=>[16]
 | 52,19=>[16,17]
 | 52,24=>[15]
 | 134,1=>[2]
 | 248,10=>[5]
 | _,_=>[]
def qvA:Nat→Nat→List Nat
 | 37,5=>[4]
 | 38,3=>[3]
 | 45,5=>[3]
 | 81,5=>[5]
 | 82,5=>[4]
 | 83,3=>[5]
 | 88,4=>[1,3]
 | 95,4=>[5]
 | 96,4=>[3]
 | 116,10=>[4,6,8,9]
 | 126,5=>[5]
 | 170,9=>[4,8]
 | 184,16=>[4,5,6,7]
 | 218,15=>[4,8]
 | 238,4=>[3]
 | 243,9=>[4,9]
 | 257,10=>[14]
 | 257,15=>[14]
 | _,_=>[]
def cvT:Nat→Nat→Bool
 | _,_=>false
def lpT:Nat→Nat→Option (List (Nat × Nat) × List Nat)
 | 8,7=>some ([(7,9)],[])
 | 14,6=>some ([(39,44),(39,47),(57,62)],[])
 | 19,2=>some ([(2,0)],[])
 | 21,8=>some ([(1,5)],[])
 | 44,8=>some ([(7,9),(12,9)],[])
 | 48,2=>some ([(8,4)],[])
 | 48,4=>some ([(8,4)],[])
 | 52,18=>some ([],[95])
 | 52,30=>some ([(20,16)],[])
 | 61,6=>some ([(5,7),(5,8)],[])
 | 74,5=>some ([(6,0)],[25])
 | 129,1=>some ([(7,4)],[])
 | 132,9=>some ([(18,4)],[])
 | 209,1=>some ([],[15])
 | 210,1=>some ([],[66])
 | 218,17=>some ([],[])
 | _,_=>none
def alT:Nat→Nat→Option Nat
 | 166,1=>some 13
 | 211,1=>some 9
 | _,_=>none
def qx2:Nat→Bool
 | 5=>true
 | 17=>true
 | 49=>true
 | 50=>true
 | 83=>true
 | 129=>true
 | _=>false
def qx1:Nat→Bool
 | _=>false
def grT:Nat→Bool
 | 5=>true
 | 8=>true
 | 9=>true
 | 14=>true
 | 19=>true
 | 20=>true
 | 21=>true
 | 23=>true
 | 32=>true
 | 33=>true
 | 34=>true
 | 42=>true
 | 44=>true
 | 47=>true
 | 48=>true
 | 51=>true
 | 52=>true
 | 53=>true
 | 54=>true
 | 55=>true
 | 57=>true
 | 58=>true
 | 59=>true
 | 71=>true
 | 79=>true
 | 84=>true
 | 85=>true
 | 87=>true
 | 90=>true
 | 91=>true
 | 92=>true
 | 93=>true
 | 110=>true
 | 111=>true
 | 124=>true
 | 131=>true
 | 132=>true
 | 209=>true
 | 210=>true
 | 264=>true
 | 265=>true
 | 268=>true
 | 269=>true
 | 291=>true
 | _=>false
def qwf:Nat→Bool
 | 10=>true
 | 15=>true
 | 22=>true
 | 43=>true
 | 81=>true
 | 86=>true
 | 88=>true
 | 89=>true
 | 126=>true
 | 130=>true
 | 133=>true
 | 137=>true
 | 188=>true
 | 208=>true
 | 231=>true
 | 246=>true
 | _=>false
def q26:Nat→Bool
 | 5=>true
 | 8=>true
 | 9=>true
 | 14=>true
 | 17=>true
 | 19=>true
 | 20=>true
 | 21=>true
 | 23=>true
 | 32=>true
 | 33=>true
 | 34=>true
 | 42=>true
 | 44=>true
 | 47=>true
 | 48=>true
 | 49=>true
 | 50=>true
 | 51=>true
 | 52=>true
 | 53=>true
 | 54=>true
 | 55=>true
 | 57=>true
 | 58=>true
 | 59=>true
 | 70=>true
 | 71=>true
 | 79=>true
 | 83=>true
 | 84=>true
 | 85=>true
 | 87=>true
 | 90=>true
 | 91=>true
 | 92=>true
 | 93=>true
 | 110=>true
 | 111=>true
 | 124=>true
 | 129=>true
 | 131=>true
 | 132=>true
 | 176=>true
 | 182=>true
 | 183=>true
 | 209=>true
 | 210=>true
 | 211=>true
 | 254=>true
 | 255=>true
 | 256=>true
 | 264=>true
 | 265=>true
 | 268=>true
 | 269=>true
 | 291=>true
 | _=>false
def q2K:Nat→Bool
 | 2=>true
 | 70=>true
 | 78=>true
 | 104=>true
 | 105=>true
 | 118=>true
 | 119=>true
 | 120=>true
 | 121=>true
 | 122=>true
 | 123=>true
 | 142=>true
 | 150=>true
 | 151=>true
 | 152=>true
 | 153=>true
 | 154=>true
 | 155=>true
 | 156=>true
 | 157=>true
 | 158=>true
 | 159=>true
 | 178=>true
 | 179=>true
 | 180=>true
 | 181=>true
 | 196=>true
 | 197=>true
 | 200=>true
 | 201=>true
 | 202=>true
 | 203=>true
 | 204=>true
 | 205=>true
 | 227=>true
 | 233=>true
 | 235=>true
 | 307=>true
 | _=>false
def qvT:Nat→Bool
 | 6=>true
 | 11=>true
 | 12=>true
 | 13=>true
 | 15=>true
 | 18=>true
 | 24=>true
 | 25=>true
 | 26=>true
 | 28=>true
 | 29=>true
 | 30=>true
 | 31=>true
 | 38=>true
 | 39=>true
 | 40=>true
 | 41=>true
 | 43=>true
 | 46=>true
 | 66=>true
 | 67=>true
 | 77=>true
 | 78=>true
 | 86=>true
 | 89=>true
 | 99=>true
 | 100=>true
 | 101=>true
 | 107=>true
 | 108=>true
 | 109=>true
 | 113=>true
 | 114=>true
 | 117=>true
 | 127=>true
 | 128=>true
 | 133=>true
 | 134=>true
 | 135=>true
 | 136=>true
 | 138=>true
 | 144=>true
 | 163=>true
 | 164=>true
 | 168=>true
 | 169=>true
 | 177=>true
 | 185=>true
 | 189=>true
 | 190=>true
 | 191=>true
 | 192=>true
 | 197=>true
 | 208=>true
 | 216=>true
 | 220=>true
 | 223=>true
 | 224=>true
 | 231=>true
 | 232=>true
 | 236=>true
 | 242=>true
 | 245=>true
 | 247=>true
 | 250=>true
 | 252=>true
 | 253=>true
 | 259=>true
 | _=>false
def q0s:Nat→Bool
 | 5=>false
 | 8=>false
 | 9=>false
 | 16=>false
 | 19=>false
 | 35=>false
 | 48=>false
 | 53=>false
 | 56=>false
 | 57=>false
 | 60=>false
 | 61=>false
 | 80=>false
 | 84=>false
 | 93=>false
 | 94=>false
 | 96=>false
 | 209=>false
 | 210=>false
 | 263=>false
 | _=>true
def qjI:Nat→List D→Option D
 | 143=>qfz
 | 141=>qfI
 | 266=>qdI
 | _=>fun _=>none
def qkc [TxtC]:Nat→List D→qe→Option (D × qe)
 | 142=>qfF
 | 197=>qfG
 | 78=>qfE
 | 182=>TxtC.t 182
 | 70=>qfD
 | _=>fun _ _=>none
def gs1:List UInt8:=[105,110,118,97,108,105,100,32,115,121,110,116,97,120]
def gs2:List UInt8:=[118,97,108,117,101,32,111,117,116,32,111,102,32,114,97,110,103,101]
def gz3:List Int:=[1,10,100,1000,10000,100000,1000000,10000000,100000000,1000000000,10000000000,100000000000,1000000000000,10000000000000,100000000000000,1000000000000000,10000000000000000,100000000000000000,1000000000000000000,10000000000000000000]
def gd3:List D:=gz3.map (D.int .u64)
def gz6:List Int:=[0,1,28,2,29,14,24,3,30,22,20,15,25,17,4,8,31,27,13,23,21,19,16,7,26,12,18,6,11,5,10,9]
def gd6:List D:=gz6.map (D.int .u8)
def gz7:List Int:=[0,1,56,2,57,49,28,3,61,58,42,50,38,29,17,4,62,47,59,36,45,43,51,22,53,39,33,30,24,18,12,5,63,55,48,27,60,41,37,16,46,35,44,21,52,32,23,11,54,26,40,15,34,20,31,10,25,14,19,9,13,8,7,6]
def gd7:List D:=gz7.map (D.int .u8)
def qjA [MaxL]:Nat→Option (List D)
 | 1=>some [.iface 342 (.vptr [.str gs1])]
 | 2=>some [.iface 342 (.vptr [.str gs2])]
 | 3=>some gd3
 | 6=>some gd6
 | 7=>some gd7
 | 0=>some [.int .i64 MaxL.m]
 | _=>none
noncomputable def cx [MaxL] [TxtC]:Cx:={ P:=Tryz.prog,glob:=qjA,keep:=qye,byRef:=q26,pureF:=qvT,ext:=qjI,bad:=q2K,frz:=q03,ret:=qvA,fzr:=q0s,con:=qkc,perm:=qwf,dynV:=true,cv:=cvT,lp:=lpT,loc:=qx2,frb:=q06,al:=alT,lom:=qx1,gr:=grT }
abbrev EK [MaxL] [TxtC] (f:Nat) (k:Nat→List Nat):Prop:= ∀ (n0 r:Nat) (e:qr) (H:qe),enter cx f n0 r e H = qdQ (k r) 0 n0 e H
abbrev EN [MaxL] [TxtC] (f r:Nat) (s:List Nat) (k:Nat):Prop:= ∀ (n0:Nat) (e:qr) (H:qe),enter cx f n0 r e H = qdQ s k n0 e H
abbrev qt [MaxL] [TxtC] (f r:Nat) (s:List Nat):Prop:=EN f r s 0
abbrev CV [MaxL] [TxtC] (f:Nat):Prop:= ∀ id,cx.cv f id = false
abbrev LP [MaxL] [TxtC] (f:Nat):Prop:= ∀ id,cx.lp f id = none
abbrev FA [MaxL] [TxtC] (f:Nat) (b p u:Bool):Prop:=cx.byRef f = b∧cx.perm f = p∧cx.pureF f = u
abbrev FZ [MaxL] [TxtC] (f:Nat) (b p u z:Bool):Prop:=FA f b p u∧cx.fzr f = z
abbrev qz [MaxL] [TxtC] (f r:Nat):Prop:=cx.lp f r = none
abbrev zD [MaxL] [TxtC] (f:Nat):Prop:=FZ f false false false true
abbrev kM [MaxL] [TxtC] (f:Nat):Prop:=FA f false false false
abbrev qem [MaxL] [TxtC] (f:Nat):Prop:=cx.loc f = true
abbrev vd [MaxL] [TxtC] (f:Nat):Prop:=cx.gr f = true
abbrev qel [MaxL] [TxtC] (f:Nat):Prop:=cx.lom f = false
abbrev Yr [MaxL] [TxtC] (f:Nat):Prop:=FZ f true false false false
abbrev zV [MaxL] [TxtC] (f:Nat):Prop:=FZ f false false true true
abbrev js [MaxL] [TxtC] (f:Nat):Prop:=cx.loc f = false
abbrev qbl [MaxL] [TxtC] (f:Nat):Prop:=FZ f false true false true
abbrev jX [MaxL] [TxtC] (f:Nat):Prop:=FZ f true false false true
abbrev qd4 [MaxL] [TxtC] (f:Nat):Prop:=FZ f false true true true
abbrev KW [MaxL] [TxtC] (f:Nat):Prop:=cx.gr f = false
abbrev qcn [MaxL] [TxtC] (f:Nat):Prop:=FZ f false false false false
abbrev qiK [MaxL] [TxtC] (f:Nat):Prop:=FA f true false false
abbrev qfk [MaxL] [TxtC] (f:Nat):Prop:=FA f false false true
section
variable [MaxL] [TxtC]
@[simp] theorem ng1:CV 3∧CV 5∧CV 6∧CV 7∧CV 8∧CV 9∧CV 10∧CV 11∧CV 12∧CV 13∧CV 14∧CV 15∧CV 17∧CV 18∧CV 19∧CV 20∧CV 21∧CV 22∧CV 23∧CV 24∧CV 25∧CV 26∧CV 27∧CV 28∧CV 29∧CV 30∧CV 31∧CV 32∧CV 33∧CV 34:=by and_intros<;>exact fun _=>rfl
@[simp] theorem ng2:CV 35∧CV 36∧CV 37∧CV 38∧CV 39∧CV 40∧CV 41∧CV 42∧CV 43∧CV 44∧CV 45∧CV 46∧CV 47∧CV 48∧CV 49∧CV 50∧CV 51∧CV 52∧CV 53∧CV 54∧CV 55∧CV 56∧CV 57∧CV 58∧CV 59∧CV 60∧CV 61∧CV 62∧CV 63∧CV 64:=by and_intros<;>exact fun _=>rfl
@[simp] theorem ng3:CV 65∧CV 66∧CV 67∧CV 68∧CV 69∧CV 71∧CV 72∧CV 73∧CV 74∧CV 75∧CV 76∧CV 77∧CV 79∧CV 80∧CV 81∧CV 82∧CV 83∧CV 84∧CV 85∧CV 86∧CV 87∧CV 88∧CV 89∧CV 90∧CV 91∧CV 92∧CV 93∧CV 94∧CV 95∧CV 96:=by and_intros<;>exact fun _=>rfl
@[simp] theorem ng4:CV 97∧CV 99∧CV 100∧CV 101∧CV 102∧CV 103∧CV 106∧CV 107∧CV 108∧CV 109∧CV 110∧CV 111∧CV 112∧CV 113∧CV 114∧CV 115∧CV 116∧CV 117∧CV 124∧CV 125∧CV 126∧CV 127∧CV 128∧CV 129∧CV 130∧CV 131∧CV 132∧CV 133∧CV 134∧CV 135:=by and_intros<;>exact fun _=>rfl
@[simp] theorem ng5:CV 136∧CV 137∧CV 138∧CV 144∧CV 146∧CV 147∧CV 161∧CV 162∧CV 163∧CV 164∧CV 165∧CV 166∧CV 167∧CV 168∧CV 169∧CV 170∧CV 171∧CV 172∧CV 173∧CV 177∧CV 183∧CV 184∧CV 185∧CV 188∧CV 189∧CV 190∧CV 191∧CV 192∧CV 206∧CV 207:=by and_intros<;>exact fun _=>rfl
@[simp] theorem ng6:CV 208∧CV 209∧CV 210∧CV 211∧CV 212∧CV 213∧CV 214∧CV 215∧CV 216∧CV 217∧CV 218∧CV 219∧CV 220∧CV 228∧CV 229∧CV 230∧CV 231∧CV 232∧CV 236∧CV 237∧CV 238∧CV 239∧CV 240∧CV 243∧CV 244∧CV 245∧CV 246∧CV 247∧CV 248∧CV 250:=by and_intros<;>exact fun _=>rfl
@[simp] theorem ng7:CV 251∧CV 252∧CV 253∧CV 254∧CV 255∧CV 256∧CV 257∧CV 258∧CV 259∧CV 262∧CV 263∧CV 264∧CV 265∧CV 268∧CV 269∧CV 270:=by and_intros<;>exact fun _=>rfl
@[simp] theorem ng8:LP 3∧LP 5∧LP 6∧LP 7:=by and_intros<;>exact fun _=>rfl
@[simp] theorem qs1:qz 8 0∧qz 8 1∧qz 8 2∧qz 8 3∧qz 8 4∧qz 8 5∧qz 8 6:=by and_intros<;>rfl
@[simp] theorem q6i:cx.lp 8 7 = some ([(7,9)],[]):=rfl
@[simp] theorem qs2:qz 8 8:=by and_intros<;>rfl
@[simp] theorem ng9:LP 9∧LP 10∧LP 11∧LP 12∧LP 13:=by and_intros<;>exact fun _=>rfl
@[simp] theorem qs3:qz 14 0∧qz 14 1∧qz 14 2∧qz 14 3∧qz 14 4∧qz 14 5:=by and_intros<;>rfl
@[simp] theorem q6w:cx.lp 14 6 = some ([(39,44),(39,47),(57,62)],[]):=rfl
@[simp] theorem qs4:qz 14 7∧qz 14 8:=by and_intros<;>rfl
@[simp] theorem q6d:LP 15∧LP 17∧LP 18:=by and_intros<;>exact fun _=>rfl
@[simp] theorem qs5:qz 19 0∧qz 19 1:=by and_intros<;>rfl
@[simp] theorem q6v:cx.lp 19 2 = some ([(2,0)],[]):=rfl
@[simp] theorem qs6:qz 19 3∧qz 19 4∧qz 19 5∧qz 19 6∧qz 19 7∧qz 19 8∧qz 19 9:=by and_intros<;>rfl
@[simp] theorem q6u (id:Nat):cx.lp 20 id = none:=rfl
@[simp] theorem qs7:qz 21 0∧qz 21 1∧qz 21 2∧qz 21 3∧qz 21 4∧qz 21 5∧qz 21 6∧qz 21 7:=by and_intros<;>rfl
@[simp] theorem q6q:cx.lp 21 8 = some ([(1,5)],[]):=rfl
@[simp] theorem qs8:qz 21 9∧qz 21 10∧qz 21 11∧qz 21 12∧qz 21 13∧qz 21 14∧qz 21 15∧qz 21 16:=by and_intros<;>rfl
@[simp] theorem q6c:LP 22∧LP 23∧LP 24∧LP 25∧LP 26∧LP 27∧LP 28∧LP 29∧LP 30∧LP 31∧LP 32∧LP 33∧LP 34∧LP 35∧LP 36∧LP 37∧LP 38∧LP 39∧LP 40∧LP 41∧LP 42∧LP 43:=by and_intros<;>exact fun _=>rfl
@[simp] theorem qs9:qz 44 0∧qz 44 1∧qz 44 2∧qz 44 3∧qz 44 4∧qz 44 5∧qz 44 6∧qz 44 7:=by and_intros<;>rfl
@[simp] theorem q6p:cx.lp 44 8 = some ([(7,9),(12,9)],[]):=rfl
@[simp] theorem q42:qz 44 9∧qz 44 10∧qz 44 11:=by and_intros<;>rfl
@[simp] theorem q6b:LP 45∧LP 46∧LP 47:=by and_intros<;>exact fun _=>rfl
@[simp] theorem q41:qz 48 0∧qz 48 1:=by and_intros<;>rfl
@[simp] theorem q6o:cx.lp 48 2 = some ([(8,4)],[]):=rfl
@[simp] theorem q40:qz 48 3:=by and_intros<;>rfl
@[simp] theorem q6n:cx.lp 48 4 = some ([(8,4)],[]):=rfl
@[simp] theorem q4z:qz 48 5∧qz 48 6∧qz 48 7∧qz 48 8∧qz 48 9∧qz 48 10∧qz 48 11∧qz 48 12∧qz 48 13∧qz 48 14∧qz 48 15∧qz 48 16:=by and_intros<;>rfl
@[simp] theorem q6a:LP 49∧LP 50∧LP 51:=by and_intros<;>exact fun _=>rfl
@[simp] theorem q4y:qz 52 0∧qz 52 1∧qz 52 2∧qz 52 3∧qz 52 4∧qz 52 5∧qz 52 6∧qz 52 7∧qz 52 8∧qz 52 9∧qz 52 10∧qz 52 11∧qz 52 12∧qz 52 13∧qz 52 14∧qz 52 15∧qz 52 16∧qz 52 17:=by and_intros<;>rfl
@[simp] theorem q6m:cx.lp 52 18 = some ([],[95]):=rfl
@[simp] theorem q4x:qz 52 19∧qz 52 20∧qz 52 21∧qz 52 22∧qz 52 23∧qz 52 24∧qz 52 25∧qz 52 26∧qz 52 27∧qz 52 28∧qz 52 29:=by and_intros<;>rfl
@[simp] theorem q6l:cx.lp 52 30 = some ([(20,16)],[]):=rfl
@[simp] theorem q4w:qz 52 31∧qz 52 32∧qz 52 33∧qz 52 34∧qz 52 35∧qz 52 36∧qz 52 37∧qz 52 38∧qz 52 39∧qz 52 40∧qz 52 41∧qz 52 42∧qz 52 43∧qz 52 44∧qz 52 45∧qz 52 46∧qz 52 47∧qz 52 48∧qz 52 49:=by and_intros<;>rfl
@[simp] theorem q5Z:LP 53∧LP 54∧LP 55∧LP 56∧LP 57∧LP 58∧LP 59∧LP 60:=by and_intros<;>exact fun _=>rfl
@[simp] theorem q4v:qz 61 0∧qz 61 1∧qz 61 2∧qz 61 3∧qz 61 4∧qz 61 5:=by and_intros<;>rfl
@[simp] theorem q6k:cx.lp 61 6 = some ([(5,7),(5,8)],[]):=rfl
@[simp] theorem q4u:qz 61 7:=by and_intros<;>rfl
@[simp] theorem q5Y:LP 62∧LP 63∧LP 64∧LP 65∧LP 66∧LP 67∧LP 68∧LP 69∧LP 71∧LP 72∧LP 73:=by and_intros<;>exact fun _=>rfl
@[simp] theorem q4t:qz 74 0∧qz 74 1∧qz 74 2∧qz 74 3∧qz 74 4:=by and_intros<;>rfl
@[simp] theorem q6j:cx.lp 74 5 = some ([(6,0)],[25]):=rfl
@[simp] theorem q5X:LP 75∧LP 76∧LP 77∧LP 79∧LP 80∧LP 81∧LP 82∧LP 83∧LP 84∧LP 85∧LP 86∧LP 87∧LP 88∧LP 89∧LP 90∧LP 91∧LP 92∧LP 93∧LP 94∧LP 95∧LP 96∧LP 97∧LP 99∧LP 100∧LP 101∧LP 102∧LP 103∧LP 106∧LP 107∧LP 108:=by and_intros<;>exact fun _=>rfl
@[simp] theorem q5W:LP 109∧LP 110∧LP 111∧LP 112∧LP 113∧LP 114∧LP 115∧LP 116∧LP 117∧LP 124∧LP 125∧LP 126∧LP 127∧LP 128:=by and_intros<;>exact fun _=>rfl
@[simp] theorem q4r:qz 129 0:=by and_intros<;>rfl
@[simp] theorem q6y:cx.lp 129 1 = some ([(7,4)],[]):=rfl
@[simp] theorem q5V:LP 130∧LP 131:=by and_intros<;>exact fun _=>rfl
@[simp] theorem q4q:qz 132 0∧qz 132 1∧qz 132 2∧qz 132 3∧qz 132 4∧qz 132 5∧qz 132 6∧qz 132 7∧qz 132 8:=by and_intros<;>rfl
@[simp] theorem q6x:cx.lp 132 9 = some ([(18,4)],[]):=rfl
@[simp] theorem q4p:qz 132 10∧qz 132 11∧qz 132 12:=by and_intros<;>rfl
@[simp] theorem q5T:LP 133∧LP 134∧LP 135∧LP 136∧LP 137∧LP 138∧LP 144∧LP 146∧LP 147∧LP 161∧LP 162∧LP 163∧LP 164∧LP 165∧LP 166∧LP 167∧LP 168∧LP 169∧LP 170∧LP 171∧LP 172∧LP 173∧LP 177∧LP 183∧LP 184∧LP 185∧LP 188∧LP 189∧LP 190∧LP 191:=by and_intros<;>exact fun _=>rfl
@[simp] theorem q5S:LP 192∧LP 206∧LP 207∧LP 208:=by and_intros<;>exact fun _=>rfl
@[simp] theorem q4o:qz 209 0:=by and_intros<;>rfl
@[simp] theorem q6t:cx.lp 209 1 = some ([],[15]):=rfl
@[simp] theorem q4n:qz 210 0:=by and_intros<;>rfl
@[simp] theorem q6s:cx.lp 210 1 = some ([],[66]):=rfl
@[simp] theorem q5R:LP 211∧LP 212∧LP 213∧LP 214∧LP 215∧LP 216∧LP 217:=by and_intros<;>exact fun _=>rfl
@[simp] theorem q4m:qz 218 0∧qz 218 1∧qz 218 2∧qz 218 3∧qz 218 4∧qz 218 5∧qz 218 6∧qz 218 7∧qz 218 8∧qz 218 9∧qz 218 10∧qz 218 11∧qz 218 12∧qz 218 13∧qz 218 14∧qz 218 15∧qz 218 16:=by and_intros<;>rfl
@[simp] theorem q6r:cx.lp 218 17 = some ([],[]):=rfl
@[simp] theorem q4l:qz 218 18∧qz 218 19∧qz 218 20:=by and_intros<;>rfl
@[simp] theorem q5Q:LP 219∧LP 220∧LP 228∧LP 229∧LP 230∧LP 231∧LP 232∧LP 236∧LP 237∧LP 238∧LP 239∧LP 240∧LP 243∧LP 244∧LP 245∧LP 246∧LP 247∧LP 248∧LP 250∧LP 251∧LP 252∧LP 253∧LP 254∧LP 255∧LP 256∧LP 257∧LP 258∧LP 259∧LP 262∧LP 263:=by and_intros<;>exact fun _=>rfl
@[simp] theorem q5P:LP 264∧LP 265∧LP 268∧LP 269∧LP 270:=by and_intros<;>exact fun _=>rfl
end
def qk0 [MaxL] [TxtC]:Prop:= ∀ {f:Nat} {args:List D} {H:qe} {r:D} {H':qe},TxtC.t f args H = some (r,H')→∀ {ok:Nat→Prop} {w:World} {ι:qV} {vs:List Value},Sim cx ok w ι H→RepL ok w ι H args vs→Goes cx.P (callFunc f vs.toArray) w (CallPost cx ok w ι H r H')
section
variable [MaxL] [TxtC]
@[simp] theorem cxP:cx.P = Tryz.prog:=rfl
@[simp] theorem cxD:cx.dynV = true:=rfl
@[simp] theorem gl1:cx.glob 1 = some [.iface 342 (.vptr [.str gs1])]:=rfl
@[simp] theorem gl2:cx.glob 2 = some [.iface 342 (.vptr [.str gs2])]:=rfl
@[simp] theorem gl3:cx.glob 3 = some gd3:=rfl
@[simp] theorem gl6:cx.glob 6 = some gd6:=rfl
@[simp] theorem gl7:cx.glob 7 = some gd7:=rfl
@[simp] theorem q4k:zD 3∧kM 4∧qem 5∧vd 5∧qel 5∧Yr 5∧zV 6∧zD 7∧js 8:=by and_intros<;>rfl
@[simp] theorem gr8:cx.gr 8 = true:=rfl
@[simp] theorem q4j:Yr 8∧js 9:=by and_intros<;>rfl
@[simp] theorem gr9:cx.gr 9 = true:=rfl
@[simp] theorem q4i:Yr 9∧qbl 10∧zV 11∧zV 12∧zV 13∧js 14∧vd 14∧jX 14∧qd4 15∧kM 16∧qem 17∧KW 17∧qel 17∧jX 17∧zV 18∧js 19∧vd 19∧Yr 19∧js 20∧vd 20∧jX 20∧js 21∧vd 21∧jX 21∧qbl 22∧js 23∧vd 23∧jX 23∧zV 24∧zV 25∧zV 26∧zD 27∧zV 28∧zV 29∧zV 30∧zV 31∧js 32∧vd 32∧jX 32∧js 33:=by and_intros<;>rfl
@[simp] theorem q4g:vd 33∧jX 33∧js 34∧vd 34∧jX 34∧qcn 35∧zD 36∧zD 37∧zV 38∧zV 39∧zV 40∧zV 41∧js 42∧vd 42∧jX 42∧qd4 43∧js 44∧vd 44∧jX 44∧zD 45∧zV 46∧js 47∧vd 47∧jX 47∧js 48∧vd 48∧Yr 48∧qem 49∧KW 49∧qel 49∧jX 49∧qem 50∧KW 50∧qel 50∧jX 50∧js 51∧vd 51∧jX 51∧js 52∧vd 52:=by and_intros<;>rfl
@[simp] theorem q4f:jX 52∧js 53∧vd 53∧Yr 53∧js 54∧vd 54∧jX 54∧js 55∧vd 55∧jX 55∧qcn 56∧js 57∧vd 57∧Yr 57∧js 58∧vd 58∧jX 58∧js 59∧vd 59∧jX 59∧qcn 60∧qcn 61∧zD 62∧zD 63∧zD 64∧zD 65∧zV 66∧zV 67∧zD 68∧zD 69∧qiK 70∧js 70∧KW 70∧js 71∧vd 71∧jX 71∧zD 72∧zD 73∧zD 74∧zD 75:=by and_intros<;>rfl
@[simp] theorem q4e:zD 76∧zV 77∧qfk 78∧js 79∧vd 79∧jX 79∧qcn 80∧qbl 81∧zD 82∧qem 83∧KW 83∧qel 83∧jX 83∧js 84∧vd 84∧Yr 84∧js 85∧vd 85∧jX 85∧qd4 86∧js 87∧vd 87∧jX 87∧qbl 88∧qd4 89∧js 90∧vd 90∧jX 90∧js 91∧vd 91∧jX 91∧js 92∧vd 92∧jX 92∧js 93∧vd 93∧Yr 93∧qcn 94∧zD 95∧qcn 96:=by and_intros<;>rfl
@[simp] theorem q4d:zD 97∧kM 98∧zV 99∧zV 100∧zV 101∧zD 102∧zD 103∧zD 106∧zV 107∧zV 108∧zV 109∧js 110∧vd 110∧jX 110∧js 111∧vd 111∧jX 111∧zD 112∧zV 113∧zV 114∧zD 115∧zD 116∧zV 117∧js 124∧vd 124∧jX 124∧zD 125∧qbl 126∧zV 127∧zV 128∧qem 129∧KW 129∧qel 129∧jX 129∧qbl 130∧js 131∧vd 131∧jX 131∧js 132∧vd 132:=by and_intros<;>rfl
@[simp] theorem q4c:jX 132∧qd4 133∧zV 134∧zV 135∧zV 136∧qbl 137∧zV 138∧kM 139∧kM 140∧kM 141∧kM 142∧kM 143∧zV 144∧kM 145∧zD 146∧zD 147∧kM 148∧kM 149∧kM 160∧zD 161∧zD 162∧zV 163∧zV 164∧zD 165∧zD 166∧zD 167∧zV 168∧zV 169∧zD 170∧zD 171∧zD 172∧zD 173∧kM 174∧kM 175∧qiK 176∧js 176∧KW 176∧zV 177∧qiK 182∧js 182:=by and_intros<;>rfl
@[simp] theorem q4b:KW 182∧js 183∧KW 183∧jX 183∧zD 184∧zV 185∧kM 186∧kM 187∧qbl 188∧zV 189∧zV 190∧zV 191∧zV 192∧kM 193∧kM 195∧qfk 197∧kM 198∧kM 199∧zD 206∧zD 207∧qd4 208∧js 209∧vd 209∧Yr 209∧js 210∧vd 210∧Yr 210∧js 211∧KW 211∧jX 211∧zD 212∧zD 213∧zD 214∧zD 215∧zV 216∧zD 217∧zD 218∧zD 219∧zV 220∧kM 221:=by and_intros<;>rfl
@[simp] theorem q4a:kM 222∧qfk 223∧qfk 224∧zD 228∧zD 229∧zD 230∧qd4 231∧zV 232∧kM 234∧zV 236∧zD 237∧zD 238∧zD 239∧zD 240∧kM 241∧qfk 242∧zD 243∧zD 244∧zV 245∧qbl 246∧zV 247∧zD 248∧kM 249∧zV 250∧zD 251∧zV 252∧zV 253∧js 254∧KW 254∧jX 254∧js 255∧KW 255∧jX 255∧js 256∧KW 256∧jX 256∧zD 257∧zD 258∧zV 259∧kM 261:=by and_intros<;>rfl
@[simp] theorem q3Z:zD 262∧qcn 263∧js 264∧vd 264∧jX 264∧js 265∧vd 265∧jX 265∧kM 266∧kM 267∧js 268∧vd 268∧jX 268∧js 269∧vd 269∧jX 269∧zD 270:=by and_intros<;>rfl
end
theorem qrA [MaxL] [TxtC] (args:List D):cx.ext 143 args = qfz args:=rfl
theorem qrB [MaxL] [TxtC] (args:List D):cx.ext 141 args = qfI args:=rfl
theorem qr9 [MaxL] [TxtC] (args:List D):cx.ext 266 args = qdI args:=rfl
theorem qsw [MaxL] [TxtC] (args:List D) (H:qe):cx.con 142 args H = qfF args H:=rfl
theorem qsv [MaxL] [TxtC] (args:List D) (H:qe):cx.con 197 args H = qfG args H:=rfl
theorem qst [MaxL] [TxtC] (args:List D) (H:qe):cx.con 78 args H = qfE args H:=rfl
theorem q2a [MaxL] [TxtC] (args:List D) (H:qe):cx.con 182 args H = TxtC.t 182 args H:=rfl
theorem qsu [MaxL] [TxtC] (args:List D) (H:qe):cx.con 70 args H = qfD args H:=rfl
end Go.Ev.S
namespace Go.Ev.S
open Go Go.Proofs Go.Ev
@[simp] theorem q5O [MaxL] [TxtC]:EK 3 kl3∧EK 5 kl5∧EK 6 kl6∧EK 7 kl7∧EK 8 kl8∧EK 9 kl9∧EK 10 qql∧EK 11 qqc∧EK 12 qpU∧EK 13 qpO∧EK 14 qpF∧EK 15 qpB∧EK 17 qp1∧EK 18 qpw∧EK 19 qpr∧EK 20 qpn:=by and_intros<;>exact fun _ _ _ _=>rfl
@[simp] theorem q5N [MaxL] [TxtC]:qt 21 0 [0,1,2,3]∧qt 21 1 [0,1,2,3]∧qt 21 2 [0,2,3,9,10]∧qt 21 3 [10]∧qt 21 4 [0,2,3,9]∧qt 21 5 [0,2,3,9,11]∧qt 21 6 [0,9,11,12]∧qt 21 7 [12]:=by and_intros<;>exact fun _ _ _=>rfl
@[simp] theorem q6R [MaxL] [TxtC] (n0:Nat) (e:qr) (H:qe):enter cx 21 n0 8 e H = qjQ [11] (qdQ [0,9,11] 0 n0 e) e H:=rfl
@[simp] theorem q5M [MaxL] [TxtC]:qt 21 9 [0,9,11,13]∧qt 21 10 [0,9,11,13,15]∧qt 21 11 []∧qt 21 12 [0,9,11]∧qt 21 13 [9,11,16]∧qt 21 14 [16]∧qt 21 15 [9,11]∧qt 21 16 []:=by and_intros<;>exact fun _ _ _=>rfl
@[simp] theorem q5L [MaxL] [TxtC]:EK 22 qoZ∧EK 23 qoV∧EK 24 qoO∧EK 25 qoI∧EK 26 qo8∧EK 27 qo1∧EK 28 qoz∧EK 29 qoy∧EK 30 qow∧EK 31 qov∧EK 32 qou∧EK 33 qot∧EK 34 qos∧EK 35 qor∧EK 36 qoq:=by and_intros<;>exact fun _ _ _ _=>rfl
@[simp] theorem q5K [MaxL] [TxtC]:qt 37 0 [0]∧qt 37 1 [0]∧qt 37 2 [0,3]∧qt 37 3 [0,3,4]∧qt 37 4 [0,3,4,5]:=by and_intros<;>exact fun _ _ _=>rfl
@[simp] theorem q6K [MaxL] [TxtC] (n0:Nat) (e:qr) (H:qe):enter cx 37 n0 5 e H = Jl [] [4] [0,3,5] n0 e H:=rfl
@[simp] theorem q5I [MaxL] [TxtC]:qt 37 6 [0,3,4,5]∧qt 37 7 [0,3,4,5,6]∧qt 37 8 [4]:=by and_intros<;>exact fun _ _ _=>rfl
@[simp] theorem q5H [MaxL] [TxtC]:qt 38 0 [0]∧qt 38 1 [1]∧qt 38 2 [1,3]:=by and_intros<;>exact fun _ _ _=>rfl
@[simp] theorem q6J [MaxL] [TxtC] (n0:Nat) (e:qr) (H:qe):enter cx 38 n0 3 e H = Jl [] [3] [6,7] n0 e H:=rfl
@[simp] theorem q5G [MaxL] [TxtC]:qt 38 4 [3,6,7]∧qt 38 5 [3,5,6,7]∧qt 38 6 [3,6,7]∧qt 38 7 [3]:=by and_intros<;>exact fun _ _ _=>rfl
@[simp] theorem q5F [MaxL] [TxtC]:EK 39 qop∧EK 40 qoo∧EK 41 qon∧EK 42 qom∧EK 43 qol∧EK 44 qok:=by and_intros<;>exact fun _ _ _ _=>rfl
@[simp] theorem q5E [MaxL] [TxtC]:qt 45 0 [0]∧qt 45 1 [0]∧qt 45 2 [0,3]∧qt 45 3 [0,3,4]∧qt 45 4 [0,3,4,5]:=by and_intros<;>exact fun _ _ _=>rfl
@[simp] theorem q6I [MaxL] [TxtC] (n0:Nat) (e:qr) (H:qe):enter cx 45 n0 5 e H = Jl [] [3] [0,4,5] n0 e H:=rfl
@[simp] theorem q5D [MaxL] [TxtC]:qt 45 6 [0,3,4,5]∧qt 45 7 [0,3,4,5,6,7]∧qt 45 8 [0,3,5,6]∧qt 45 9 [0,3,5,6]∧qt 45 10 [3]:=by and_intros<;>exact fun _ _ _=>rfl
@[simp] theorem q5C [MaxL] [TxtC]:EK 46 qoj∧EK 47 qoi∧EK 48 qoh∧EK 49 qog∧EK 50 qoe∧EK 51 qod:=by and_intros<;>exact fun _ _ _ _=>rfl
@[simp] theorem q5B [MaxL] [TxtC]:qt 52 0 [0,1,2,3,4]∧qt 52 1 [0,1,2,3,9]∧qt 52 2 [0,2,3,9,12,13]∧qt 52 3 [13]∧qt 52 4 [0,2,3,9,12]∧qt 52 5 []∧qt 52 6 [0,2,3,9,12]∧qt 52 7 [0,2,3,9,12,14]∧qt 52 8 [0,2,3,9,12,14,15]∧qt 52 9 [0,2,3,9,12,14,15,16]∧qt 52 10 [0,2,3,9,12,14,15,16,17]∧qt 52 11 [0,2,3,9,12,14,15,16,17,18]∧qt 52 12 [0,2,3,9,12,14,15,16,17,18]∧qt 52 13 [0,2,3,9,12,14,15,16,17,18]∧qt 52 14 [0,2,3,9,12,14,15,16,17,18,19]:=by and_intros<;>exact fun _ _ _=>rfl
@[simp] theorem q6H [MaxL] [TxtC] (n0:Nat) (e:qr) (H:qe):enter cx 52 n0 15 e H = qjQ [17] (qe1 [16] [0,2,3,9,12,14,15,16,17,18,19] 0 n0 e) e H:=rfl
@[simp] theorem q5A [MaxL] [TxtC]:qt 52 16 [0,2,3,9,12,14,15,16,17,18,19,20]∧qt 52 17 [0,2,3,9,12,14,15,16,17,18,19,20]∧qt 52 18 [0,2,3,9,12,14,15,16,17,18,19,20]:=by and_intros<;>exact fun _ _ _=>rfl
@[simp] theorem q6G [MaxL] [TxtC] (n0:Nat) (e:qr) (H:qe):enter cx 52 n0 19 e H = qe1 [16,17] [0,2,3,9,14,15,16,17] 0 n0 e H:=rfl
@[simp] theorem q59 [MaxL] [TxtC]:qt 52 20 [0,2,3,9,14,15,16,17,21]∧qt 52 21 [0,2,3,9,14,15,16,17,21]∧qt 52 22 [0,2,3,9,14,15,16,17,21]∧qt 52 23 [0,2,3,9,14,15,16,17,21,22]:=by and_intros<;>exact fun _ _ _=>rfl
@[simp] theorem q6F [MaxL] [TxtC] (n0:Nat) (e:qr) (H:qe):enter cx 52 n0 24 e H = qe1 [15] [0,2,3,9,14,15,16,17] 0 n0 e H:=rfl
@[simp] theorem q57 [MaxL] [TxtC]:qt 52 25 [0,2,3,9,14,15,16,17,23]∧qt 52 26 [0,2,3,9,14,16,23,24]∧qt 52 27 [0,2,3,9,14,16,23,24]∧qt 52 28 [0,2,3,9,14,16,23,24,26]∧qt 52 29 [0,2,3,9,14,16,23,24,25,26]∧qt 52 30 [0,2,3,9,14,16,23,24,25,26]∧qt 52 31 [0,2,3,9,14,16,23,24,26]∧qt 52 32 [0,2,3,9,14,16,23,24,26,27]∧qt 52 33 [0,2,3,9,14,16,23,24,26,27]∧qt 52 34 [0,2,3,9,14,16,23,24,26,27]∧qt 52 35 [0,2,3,9,14,16,23,24,26,27,28]∧qt 52 36 [0,2,3,9,14,16,23,24,26,27,28]∧qt 52 37 [0,2,3,9,14,16,23,24,26,27,28]∧qt 52 38 [0,2,3,9,14,16,23,24,26,27,28]∧qt 52 39 [0,2,3,9,14,16,23,24,26,27,28]∧qt 52 40 [0,2,3,9,14,16,23,24,26,27,28]∧qt 52 41 [0,2,3,9,14,23,24,26]∧qt 52 42 [0,14]∧qt 52 43 []∧qt 52 44 [0,2,3,9,23,24,26]∧qt 52 45 [0,2,3,9,23,24]∧qt 52 46 [0,2,3,9,23,24]∧qt 52 47 [0,2,3,9,23,24]∧qt 52 48 [0,9,23,24]∧qt 52 49 [23]:=by and_intros<;>exact fun _ _ _=>rfl
@[simp] theorem q56 [MaxL] [TxtC]:EK 53 qoc∧EK 54 qob∧EK 55 qoa∧EK 56 qnZ∧EK 57 qnY∧EK 58 qnX∧EK 59 qnW∧EK 60 qnU∧EK 61 qnT∧EK 62 qnS∧EK 63 qnR∧EK 64 qnQ∧EK 65 qnP∧EK 66 qnO∧EK 67 qnN∧EK 68 qnM∧EK 69 qnL∧EK 71 qnJ∧EK 72 qnI∧EK 73 qnH∧EK 74 qnG∧EK 75 qnF∧EK 76 qnE∧EK 77 qnD∧EK 79 qnC∧EK 80 qnA:=by and_intros<;>exact fun _ _ _ _=>rfl
@[simp] theorem q55 [MaxL] [TxtC]:qt 81 0 [0,1]∧qt 81 1 [0,1]∧qt 81 2 []∧qt 81 3 [0,1]∧qt 81 4 [0,1,5]:=by and_intros<;>exact fun _ _ _=>rfl
@[simp] theorem q6E [MaxL] [TxtC] (n0:Nat) (e:qr) (H:qe):enter cx 81 n0 5 e H = Jl [] [5] [0,1,6] n0 e H:=rfl
@[simp] theorem q54 [MaxL] [TxtC]:qt 81 6 [0,1,5,6]∧qt 81 7 [0,1,5,6]∧qt 81 8 [0,5]:=by and_intros<;>exact fun _ _ _=>rfl
@[simp] theorem q53 [MaxL] [TxtC]:qt 82 0 [0]∧qt 82 1 [0]∧qt 82 2 []∧qt 82 3 [0]∧qt 82 4 [0,4]:=by and_intros<;>exact fun _ _ _=>rfl
@[simp] theorem q6D [MaxL] [TxtC] (n0:Nat) (e:qr) (H:qe):enter cx 82 n0 5 e H = Jl [] [4] [0,5] n0 e H:=rfl
@[simp] theorem q52 [MaxL] [TxtC]:qt 82 6 [0,4,5]∧qt 82 7 [0,4,5]∧qt 82 8 [0,4,5,7]∧qt 82 9 [7]∧qt 82 10 [0,4,5]∧qt 82 11 [0,4,5,8]∧qt 82 12 [0,4,5,8]∧qt 82 13 [0,4,5,8]∧qt 82 14 [0,4,5,8]∧qt 82 15 [0,4,5,8]∧qt 82 16 [0,4,5,8,9]∧qt 82 17 [0,4,5,8,9]∧qt 82 18 [0,4,5,8,9]∧qt 82 19 [0,4,5,8]∧qt 82 20 [4]∧qt 82 21 []∧qt 82 22 [4]:=by and_intros<;>exact fun _ _ _=>rfl
@[simp] theorem q51 [MaxL] [TxtC]:qt 83 0 [0,1]∧qt 83 1 [0,1]∧qt 83 2 [0,1,5]:=by and_intros<;>exact fun _ _ _=>rfl
@[simp] theorem q6C [MaxL] [TxtC] (n0:Nat) (e:qr) (H:qe):enter cx 83 n0 3 e H = Jl [] [5] [0,6] n0 e H:=rfl
@[simp] theorem q50 [MaxL] [TxtC]:qt 83 4 [0,5,6]∧qt 83 5 [0,5,6]∧qt 83 6 [5]:=by and_intros<;>exact fun _ _ _=>rfl
@[simp] theorem q5z [MaxL] [TxtC]:EK 84 qn9∧EK 85 qn8∧EK 86 qn7∧EK 87 qn6:=by and_intros<;>exact fun _ _ _ _=>rfl
@[simp] theorem q5y [MaxL] [TxtC]:qt 88 0 [0]∧qt 88 1 [1]∧qt 88 2 [1,3]∧qt 88 3 [1,3]:=by and_intros<;>exact fun _ _ _=>rfl
@[simp] theorem q6B [MaxL] [TxtC] (n0:Nat) (e:qr) (H:qe):enter cx 88 n0 4 e H = Jl [] [1,3] [4] n0 e H:=rfl
@[simp] theorem q5w [MaxL] [TxtC]:qt 88 5 [1,3,4]∧qt 88 6 [1,3,4]∧qt 88 7 [3]:=by and_intros<;>exact fun _ _ _=>rfl
@[simp] theorem q5v [MaxL] [TxtC]:EK 89 qn5∧EK 90 qn3∧EK 91 qn2∧EK 92 qn1∧EK 93 qn0∧EK 94 qnz:=by and_intros<;>exact fun _ _ _ _=>rfl
@[simp] theorem q5u [MaxL] [TxtC]:qt 95 0 [0,1]∧qt 95 1 [0,1]∧qt 95 2 [0,1,5]∧qt 95 3 [0,1,5,6]:=by and_intros<;>exact fun _ _ _=>rfl
@[simp] theorem q6A [MaxL] [TxtC] (n0:Nat) (e:qr) (H:qe):enter cx 95 n0 4 e H = Jl [] [5] [0,1,6] n0 e H:=rfl
@[simp] theorem q5t [MaxL] [TxtC]:qt 95 5 [0,1,5,6]∧qt 95 6 [0,1,5,6]∧qt 95 7 [5]:=by and_intros<;>exact fun _ _ _=>rfl
@[simp] theorem q5s [MaxL] [TxtC]:qt 96 0 [0]∧qt 96 1 [0]∧qt 96 2 [0,3]∧qt 96 3 [0,3,4]:=by and_intros<;>exact fun _ _ _=>rfl
@[simp] theorem q69 [MaxL] [TxtC] (n0:Nat) (e:qr) (H:qe):enter cx 96 n0 4 e H = Jl [] [3] [0,4] n0 e H:=rfl
@[simp] theorem q5r [MaxL] [TxtC]:qt 96 5 [0,3,4]∧qt 96 6 [3]:=by and_intros<;>exact fun _ _ _=>rfl
@[simp] theorem q5q [MaxL] [TxtC]:EK 97 qny∧EK 99 qnx∧EK 100 qqk∧EK 101 qqj∧EK 102 qqi∧EK 103 qqh∧EK 106 qqg∧EK 107 qqf∧EK 108 qqe∧EK 109 qqd∧EK 110 qqb∧EK 111 qqa∧EK 112 qpZ∧EK 113 qpY∧EK 114 qpX∧EK 115 qpW:=by and_intros<;>exact fun _ _ _ _=>rfl
@[simp] theorem q5p [MaxL] [TxtC]:qt 116 0 [0,1]∧qt 116 1 [0,1,4]∧qt 116 2 [0,4,6,7]∧qt 116 3 [4,7]∧qt 116 4 [0,4,6]∧qt 116 5 [4]∧qt 116 6 [0,4,6]∧qt 116 7 [0,4,6,8]∧qt 116 8 [0,4,6,8,9]∧qt 116 9 [0,4,6,8,9,10]:=by and_intros<;>exact fun _ _ _=>rfl
@[simp] theorem q6Y [MaxL] [TxtC] (n0:Nat) (e:qr) (H:qe):enter cx 116 n0 10 e H = Jl [] [4,6,8,9] [0,10] n0 e H:=rfl
@[simp] theorem q5o [MaxL] [TxtC]:qt 116 11 [0,4,6,8,9,10]∧qt 116 12 [0,4,6,8,9,10,11,12,13]∧qt 116 13 [4,13]∧qt 116 14 [0,4,6,8,9,10,11,12]∧qt 116 15 [4]∧qt 116 16 [0,4,6,8,9,10,11]∧qt 116 17 [0,4,6,8,9,10,11,14,15]∧qt 116 18 [4,15]∧qt 116 19 [0,4,6,8,9,10,11,14]∧qt 116 20 [0,4,6,8,9,10,14]∧qt 116 21 [4,6,8,9]∧qt 116 22 [4]∧qt 116 23 [4,8]:=by and_intros<;>exact fun _ _ _=>rfl
@[simp] theorem q5n [MaxL] [TxtC]:EK 117 qpV∧EK 124 qpT∧EK 125 qpS:=by and_intros<;>exact fun _ _ _ _=>rfl
@[simp] theorem q5l [MaxL] [TxtC]:qt 126 0 [0,1]∧qt 126 1 [0,1]∧qt 126 2 []∧qt 126 3 [0,1]∧qt 126 4 [1,5]:=by and_intros<;>exact fun _ _ _=>rfl
@[simp] theorem q6X [MaxL] [TxtC] (n0:Nat) (e:qr) (H:qe):enter cx 126 n0 5 e H = Jl [] [5] [] n0 e H:=rfl
@[simp] theorem q5k [MaxL] [TxtC]:qt 126 6 [5]∧qt 126 7 [5]:=by and_intros<;>exact fun _ _ _=>rfl
@[simp] theorem q5j [MaxL] [TxtC]:EK 127 qpR∧EK 128 qpQ∧EK 129 qpP∧EK 130 qpN∧EK 131 qpM∧EK 132 qpL∧EK 133 qpK:=by and_intros<;>exact fun _ _ _ _=>rfl
@[simp] theorem q6W [MaxL] [TxtC] (n0:Nat) (e:qr) (H:qe):enter cx 134 n0 0 e H = qdQ [0,1] 0 n0 e H:=rfl
@[simp] theorem q6V [MaxL] [TxtC] (n0:Nat) (e:qr) (H:qe):enter cx 134 n0 1 e H = qe1 [2] [1,2] 0 n0 e H:=rfl
@[simp] theorem q5i [MaxL] [TxtC]:qt 134 2 [1,5,6]∧qt 134 3 [1,7]∧qt 134 4 [1,7,8]∧qt 134 5 [1,7,8]∧qt 134 6 [1,7,8,9]∧qt 134 7 [1,7,8,9]∧qt 134 8 [1,7,8,9]∧qt 134 9 [1,7,8]∧qt 134 10 [1,7,8]∧qt 134 11 [7,10]∧qt 134 12 [7,10]∧qt 134 13 [7,10]∧qt 134 14 [7]∧qt 134 15 [7]∧qt 134 16 [7]:=by and_intros<;>exact fun _ _ _=>rfl
@[simp] theorem q5h [MaxL] [TxtC]:EK 135 qpJ∧EK 136 qpI∧EK 137 qpH∧EK 138 qpG∧EK 144 qpE∧EK 146 qpD∧EK 147 qpC∧EK 161 qpA∧EK 162 qp9∧EK 163 qp8∧EK 164 qp7∧EK 165 qp6∧EK 166 qp5∧EK 167 qp4∧EK 168 qp3∧EK 169 qp2:=by and_intros<;>exact fun _ _ _ _=>rfl
@[simp] theorem q5g [MaxL] [TxtC]:qt 170 0 [0,1]∧qt 170 1 [0,1,4]∧qt 170 2 [4,6,7]∧qt 170 3 [4,7]∧qt 170 4 [4,6]∧qt 170 5 [4]∧qt 170 6 [4,6]∧qt 170 7 [4,6,8]∧qt 170 8 [4,6,8,9]:=by and_intros<;>exact fun _ _ _=>rfl
@[simp] theorem q6U [MaxL] [TxtC] (n0:Nat) (e:qr) (H:qe):enter cx 170 n0 9 e H = Jl [] [4,8] [6,9] n0 e H:=rfl
@[simp] theorem q5f [MaxL] [TxtC]:qt 170 10 [4,6,8,9]∧qt 170 11 [4,8]:=by and_intros<;>exact fun _ _ _=>rfl
@[simp] theorem q5e [MaxL] [TxtC]:EK 171 qp0∧EK 172 qpz∧EK 173 qpy∧EK 177 qpx∧EK 183 qpv:=by and_intros<;>exact fun _ _ _ _=>rfl
@[simp] theorem q5d [MaxL] [TxtC]:qt 184 0 [0,1]∧qt 184 1 [0,1,4]∧qt 184 2 [0,4,5]∧qt 184 3 [0,4,5,6]∧qt 184 4 [0,4,5,6]∧qt 184 5 [0,4,5,6]∧qt 184 6 [0,4,5,6,7]∧qt 184 7 [0,4,5,6,7,32,33,34]∧qt 184 8 [0,4,5,6,7,32,33,34]∧qt 184 9 [0,4,5,6,7,9,32,33,34]∧qt 184 10 [0,4,5,6,7,9,10,32,33,34]∧qt 184 11 [0,4,5,6,7,10,32,33,34]∧qt 184 12 [0,4,5,6,7,10,32,33,34]∧qt 184 13 [0,4,5,6,7,10,11,12,32,33,34]∧qt 184 14 [0,4,5,6,7,10,11,32,33,34]∧qt 184 15 [0,4,5,6,7,10,32,33,34]:=by and_intros<;>exact fun _ _ _=>rfl
@[simp] theorem q6T [MaxL] [TxtC] (n0:Nat) (e:qr) (H:qe):enter cx 184 n0 16 e H = Jl [] [4,5,6,7] [0,32,33,34] n0 e H:=rfl
@[simp] theorem q5b [MaxL] [TxtC]:qt 184 17 [4,5,6,7]∧qt 184 18 [4,6]∧qt 184 19 [4,6]:=by and_intros<;>exact fun _ _ _=>rfl
@[simp] theorem q5a [MaxL] [TxtC]:EK 185 qpu∧EK 188 qpt∧EK 189 qps∧EK 190 qpq∧EK 191 qpp∧EK 192 qpo∧EK 206 qpm∧EK 207 qpl∧EK 208 qpk∧EK 209 qpj∧EK 210 qpi∧EK 211 qph∧EK 212 qpg∧EK 213 qpf∧EK 214 qpe∧EK 215 qpd∧EK 216 qpc∧EK 217 qpb:=by and_intros<;>exact fun _ _ _ _=>rfl
@[simp] theorem q4Z [MaxL] [TxtC]:qt 218 0 [0,1]∧qt 218 1 [0,1,4]∧qt 218 2 [4,6,7]∧qt 218 3 [4,7]∧qt 218 4 [4,6]∧qt 218 5 [4]∧qt 218 6 [4,6]∧qt 218 7 [4,6,8]∧qt 218 8 [4]∧qt 218 9 [4,6,8]∧qt 218 10 [4,6,8,9]∧qt 218 11 [4,6,8,9]∧qt 218 12 [4,6,8,9]∧qt 218 13 [4,6,8]∧qt 218 14 [4,6,8,10]:=by and_intros<;>exact fun _ _ _=>rfl
@[simp] theorem q6S [MaxL] [TxtC] (n0:Nat) (e:qr) (H:qe):enter cx 218 n0 15 e H = Jl [] [4,8] [6,10] n0 e H:=rfl
@[simp] theorem q4Y [MaxL] [TxtC]:qt 218 16 [4,6,8,10]∧qt 218 17 [4,6,8,10,11]∧qt 218 18 [4,6,8,10,11]∧qt 218 19 [4]∧qt 218 20 [4,8]:=by and_intros<;>exact fun _ _ _=>rfl
@[simp] theorem q4X [MaxL] [TxtC]:EK 219 qpa∧EK 220 qoY∧EK 228 qoX∧EK 229 qoW∧EK 230 qoU∧EK 231 qoT∧EK 232 qoS∧EK 236 qoR∧EK 237 qoQ:=by and_intros<;>exact fun _ _ _ _=>rfl
@[simp] theorem q4W [MaxL] [TxtC]:qt 238 0 [0]∧qt 238 1 [0]∧qt 238 2 [0,3]∧qt 238 3 [0,3,4]:=by and_intros<;>exact fun _ _ _=>rfl
@[simp] theorem q6Q [MaxL] [TxtC] (n0:Nat) (e:qr) (H:qe):enter cx 238 n0 4 e H = Jl [] [3] [0,4] n0 e H:=rfl
@[simp] theorem q4V [MaxL] [TxtC]:qt 238 5 [0,3,4]∧qt 238 6 [0,3,4,5]∧qt 238 7 [3]:=by and_intros<;>exact fun _ _ _=>rfl
@[simp] theorem q4U [MaxL] [TxtC]:EK 239 qoP∧EK 240 qoN:=by and_intros<;>exact fun _ _ _ _=>rfl
@[simp] theorem q4T [MaxL] [TxtC]:qt 243 0 [0,1]∧qt 243 1 [0,1,4]∧qt 243 2 [4,6,7]∧qt 243 3 [4,7]∧qt 243 4 [4,6]∧qt 243 5 [4,6,8]∧qt 243 6 [4,6,8,9]∧qt 243 7 [4,8,9]∧qt 243 8 [4,8,9,10]:=by and_intros<;>exact fun _ _ _=>rfl
@[simp] theorem q6P [MaxL] [TxtC] (n0:Nat) (e:qr) (H:qe):enter cx 243 n0 9 e H = Jl [] [4,9] [8,10] n0 e H:=rfl
@[simp] theorem q4S [MaxL] [TxtC]:qt 243 10 [4,8,9,10]∧qt 243 11 [4,9]∧qt 243 12 [4]∧qt 243 13 [4,9]∧qt 243 14 [4,9,11]∧qt 243 15 [4,9,11]∧qt 243 16 [4,9,11]∧qt 243 17 [4]∧qt 243 18 [4,9]:=by and_intros<;>exact fun _ _ _=>rfl
@[simp] theorem q4Q [MaxL] [TxtC]:EK 244 qoM∧EK 245 qoL∧EK 246 qoK∧EK 247 qoJ:=by and_intros<;>exact fun _ _ _ _=>rfl
@[simp] theorem q4P [MaxL] [TxtC]:qt 248 0 [0]∧qt 248 1 [0]∧qt 248 2 [0,3]∧qt 248 3 [0,4]∧qt 248 4 [0,4]∧qt 248 5 [0,4]∧qt 248 6 [0,4]∧qt 248 7 [0,4]∧qt 248 8 [0,4]∧qt 248 9 [0,4,5]:=by and_intros<;>exact fun _ _ _=>rfl
@[simp] theorem q6O [MaxL] [TxtC] (n0:Nat) (e:qr) (H:qe):enter cx 248 n0 10 e H = qe1 [5] [4,5] 0 n0 e H:=rfl
@[simp] theorem q4O [MaxL] [TxtC]:qt 248 11 [4]∧qt 248 12 [4]:=by and_intros<;>exact fun _ _ _=>rfl
@[simp] theorem q4N [MaxL] [TxtC]:EK 250 qoH∧EK 251 qoG∧EK 252 qoF∧EK 253 qoE∧EK 254 qoD∧EK 255 qoC∧EK 256 qoB:=by and_intros<;>exact fun _ _ _ _=>rfl
@[simp] theorem q4M [MaxL] [TxtC]:qt 257 0 [0,1,2,3]∧qt 257 1 [0,1,2,3]∧qt 257 2 [0,1,2,3,11,12]∧qt 257 3 [12]∧qt 257 4 [0,1,2,3,11]∧qt 257 5 []∧qt 257 6 [0,1,3,11]∧qt 257 7 []∧qt 257 8 [0,1,3,11]∧qt 257 9 [3,13]:=by and_intros<;>exact fun _ _ _=>rfl
@[simp] theorem q6N [MaxL] [TxtC] (n0:Nat) (e:qr) (H:qe):enter cx 257 n0 10 e H = Jl [] [14] [3,13] n0 e H:=rfl
@[simp] theorem q4L [MaxL] [TxtC]:qt 257 11 [3,13,14,49,50]∧qt 257 12 [3,13,14,49,50]∧qt 257 13 [3,13,14,15,49,50]∧qt 257 14 [3,13,14,16,49,50]:=by and_intros<;>exact fun _ _ _=>rfl
@[simp] theorem q6M [MaxL] [TxtC] (n0:Nat) (e:qr) (H:qe):enter cx 257 n0 15 e H = Jl [] [14] [3,13,49,50] n0 e H:=rfl
@[simp] theorem q6L [MaxL] [TxtC] (n0:Nat) (e:qr) (H:qe):enter cx 257 n0 16 e H = qdQ [3,13,14] 0 n0 e H:=rfl
@[simp] theorem q4K [MaxL] [TxtC]:EK 258 qoA∧EK 259 qo9∧EK 262 qo7∧EK 263 qo6∧EK 264 qo5∧EK 265 qo4∧EK 268 qo3∧EK 269 qo2∧EK 270 qo0:=by and_intros<;>exact fun _ _ _ _=>rfl
abbrev qF (n s:Nat) (a:Bool) (b:Nat) (z:D):Prop:=qv Tryz.prog n = s∧VT Tryz.prog n = some a∧bytesOf Tryz.prog n = b∧KQ Tryz.prog n = some z
abbrev qqC (n:Nat):Prop:=qkh Tryz.prog n = true
abbrev qqG (n:Nat):Prop:=Tryz.prog.eqGuardType Tryz.prog.depth n = false
abbrev j9 (n:Nat) (u:TypeDesc):Prop:=Tryz.prog.underlying n = some u
@[simp] theorem q3Y:qF 1 1 false 8 (.nilf)∧qF 2 1 false 8 (.int .i64 0)∧qqC 2∧j9 2 (.int .i64)∧qF 3 1 false 8 (.int .i64 0)∧qqC 3:=by and_intros<;>show _=_<;>kernel_rfl
@[simp] theorem un3:Tryz.prog.underlying 3 = some (.int .i64):=by kernel_rfl
@[simp] theorem q3X:qF 4 1 false 1 (.bool false)∧j9 4 .bool∧qF 5 1 false 1 (.int .u8 0)∧qqC 5:=by and_intros<;>show _=_<;>kernel_rfl
@[simp] theorem un5:Tryz.prog.underlying 5 = some (.int .u8):=by kernel_rfl
@[simp] theorem q3V:qF 9 1 false 16 (.str []):=by and_intros<;>show _=_<;>kernel_rfl
@[simp] theorem un9:Tryz.prog.underlying 9 = some .string:=by kernel_rfl
@[simp] theorem q3U:qF 21 1 false 4 (.int .i32 0)∧qqC 21∧j9 21 (.int .i32)∧qF 22 16 true 16 (.agg (qO []))∧j9 22 (.array 16 5)∧qF 23 16 true 16 (.agg (qO [])):=by and_intros<;>show _=_<;>kernel_rfl
@[simp] theorem qtD:Tryz.prog.underlying 23 = some (.array 16 5):=by kernel_rfl
@[simp] theorem q3T:qF 24 1 false 8 (.int .u64 0)∧qqC 24:=by and_intros<;>show _=_<;>kernel_rfl
@[simp] theorem qkJ:Tryz.prog.underlying 24 = some (.int .u64):=by kernel_rfl
attribute [simp] Tryz.underlying25 Tryz.underlying26
@[simp] theorem q3S:qF 25 19 true 40 (.agg (.int .i64 0::qO [.int .u64 0,.int .u64 0]))∧qF 26 19 true 40 (.agg (.int .i64 0::qO [.int .u64 0,.int .u64 0]))∧qF 27 1 false 24 (.vsl true [] 0):=by and_intros<;>show _=_<;>kernel_rfl
@[simp] theorem qtC:Tryz.prog.underlying 27 = some (.slice 31):=by kernel_rfl
@[simp] theorem q3R:qF 28 1 false 24 (.vsl true [] 0):=by and_intros<;>show _=_<;>kernel_rfl
@[simp] theorem qtB:Tryz.prog.underlying 28 = some (.slice 9):=by kernel_rfl
@[simp] theorem q3Q:qF 29 1 false 24 (.vsl true [] 0):=by and_intros<;>show _=_<;>kernel_rfl
@[simp] theorem qtA:Tryz.prog.underlying 29 = some (.slice 5):=by kernel_rfl
@[simp] theorem q3P:qF 31 1 false 24 (.vsl true [] 0):=by and_intros<;>show _=_<;>kernel_rfl
@[simp] theorem qt9:Tryz.prog.underlying 31 = some (.slice 3):=by kernel_rfl
attribute [simp] Tryz.underlying36 Tryz.underlying40 Tryz.underlying41 Tryz.underlying58 Tryz.underlying59 Tryz.underlying84 Tryz.underlying85 Tryz.underlying90 Tryz.underlying91 Tryz.underlying97 Tryz.underlying98 Tryz.underlying103 Tryz.underlying104 Tryz.underlying106 Tryz.underlying107 Tryz.underlying111 Tryz.underlying112 Tryz.underlying124 Tryz.underlying125 Tryz.underlying126 Tryz.underlying127 Tryz.underlying132 Tryz.underlying133 Tryz.underlying135 Tryz.underlying136 Tryz.underlying141 Tryz.underlying142 Tryz.underlying151 Tryz.underlying152 Tryz.underlying171 Tryz.underlying172 Tryz.underlying173 Tryz.underlying174 Tryz.underlying176 Tryz.underlying177 Tryz.underlying181 Tryz.underlying182 Tryz.underlying187 Tryz.underlying188 Tryz.underlying196 Tryz.underlying197 Tryz.underlying201 Tryz.underlying202 Tryz.underlying204 Tryz.underlying205 Tryz.underlying211 Tryz.underlying212 Tryz.underlying214 Tryz.underlying215 Tryz.underlying229 Tryz.underlying230 Tryz.underlying236 Tryz.underlying237 Tryz.underlying264 Tryz.underlying290 Tryz.underlying291 Tryz.underlying298 Tryz.underlying299 Tryz.underlying326 Tryz.underlying327 Tryz.underlying330 Tryz.underlying331 Tryz.underlying333 Tryz.underlying334 Tryz.underlying338 Tryz.underlying339 Tryz.underlying343 Tryz.underlying344 Tryz.underlying350 Tryz.underlying351 Tryz.underlying360 Tryz.underlying368 Tryz.underlying369 Tryz.underlying380 Tryz.underlying381
@[simp] theorem q3O:qF 32 1 false 8 (.nilp)∧j9 32 (.pointer 104)∧qF 36 19 true 40 (.agg (.int .i64 0::qO [.int .u64 0,.int .u64 0]))∧qF 39 1 false 24 (.vsl true [] 0)∧j9 39 (.slice 29)∧qF 40 2 true 48 (.agg [.vsl true [] 0,.vsl true [] 0])∧qF 41 2 true 48 (.agg [.vsl true [] 0,.vsl true [] 0])∧qF 43 1 false 24 (.vsl true [] 0)∧j9 43 (.slice 85)∧qF 46 1 false 24 (.vsl true [] 0)∧j9 46 (.slice 91)∧qF 57 1 false 8 (.nilp)∧j9 57 (.pointer 59)∧qF 58 2 true 32 (.agg [.vsl true [] 0,.int .i64 0])∧qF 59 2 true 32 (.agg [.vsl true [] 0,.int .i64 0])∧qF 62 1 false 8 (.nilp)∧j9 62 (.pointer 136)∧qF 63 1 false 24 (.vsl true [] 0)∧j9 63 (.slice 112)∧qF 77 3 true 3 (.agg [.bool false,.bool false,.bool false])∧j9 77 (.array 3 4)∧qF 81 1 false 8 (.nilp)∧j9 81 (.pointer 152)∧qF 84 21 true 64 (.agg (.str []::.int .i64 0::qO [.int .u64 0,.int .u64 0,.nilp])):=by and_intros<;>show _=_<;>kernel_rfl
@[simp] theorem q3N:qF 85 21 true 64 (.agg (.str []::.int .i64 0::qO [.int .u64 0,.int .u64 0,.nilp]))∧qF 86 1 false 8 (.nilp)∧j9 86 (.pointer 98)∧qF 90 22 true 88 (.agg (.str []::.int .i64 0::qO [.int .u64 0,.int .u64 0,.nilp,.vsl true [] 0]))∧qF 91 22 true 88 (.agg (.str []::.int .i64 0::qO [.int .u64 0,.int .u64 0,.nilp,.vsl true [] 0]))∧qF 95 1 false 8 (.nilp)∧j9 95 (.pointer 212)∧qF 96 1 false 24 (.vsl true [] 0)∧j9 96 (.slice 24)∧qF 97 3 true 40 (.agg [.nilp,.vsl true [] 0,.int .i64 0])∧qF 98 3 true 40 (.agg [.nilp,.vsl true [] 0,.int .i64 0])∧qF 101 1 false 24 (.vsl true [] 0)∧j9 101 (.slice 117)∧qF 102 1 false 24 (.vsl true [] 0)∧j9 102 (.slice 127)∧qF 103 5 true 72 (.agg [.int .i64 0,.int .i64 0,.bool false,.vsl true [] 0,.vsl true [] 0])∧qF 104 5 true 72 (.agg [.int .i64 0,.int .i64 0,.bool false,.vsl true [] 0,.vsl true [] 0])∧qF 106 52 true 80 (.agg (qO (qO (qO [.int .i64 0,.int .i64 0,.int .i64 0,.bool false]))))∧qF 107 52 true 80 (.agg (qO (qO (qO [.int .i64 0,.int .i64 0,.int .i64 0,.bool false]))))∧qF 110 1 false 24 (.vsl true [] 0)∧j9 110 (.slice 172)∧qF 111 20 true 64 (.agg (.int .u64 0::.int .u64 0::.int .u64 0::qO [.vsl true [] 0]))∧qF 112 20 true 64 (.agg (.int .u64 0::.int .u64 0::.int .u64 0::qO [.vsl true [] 0]))∧qF 117 1 false 8 (.nilp):=by and_intros<;>show _=_<;>kernel_rfl
@[simp] theorem q3M:j9 117 (.pointer 125)∧qF 122 1 false 8 (.nilp)∧j9 122 (.pointer 188)∧qF 124 3 true 32 (.agg [.str [],.bool false,.nilp])∧qF 125 3 true 32 (.agg [.str [],.bool false,.nilp])∧qF 126 4 true 40 (.agg [.int .i64 0,.nilp,.str [],.nilp])∧qF 127 4 true 40 (.agg [.int .i64 0,.nilp,.str [],.nilp])∧qF 130 1 false 4 (.int .u32 0)∧qqC 130∧j9 130 (.int .u32)∧qF 131 20 true 160 (.agg (vE (vE [])))∧j9 131 (.array 20 24)∧qF 132 90 true 256 (.agg (.int .u32 0::.int .u32 0::.int .i64 0::qO (qO (qO (qO (vE (vE [.int .u32 0,.int .u32 0,.int .u64 0])))))))∧qF 133 90 true 256 (.agg (.int .u32 0::.int .u32 0::.int .i64 0::qO (qO (qO (qO (vE (vE [.int .u32 0,.int .u32 0,.int .u64 0])))))))∧qF 134 1 false 24 (.vsl true [] 0)∧j9 134 (.slice 174)∧qF 135 147 true 440 (.agg (qO (qO (qO (.int .i64 0::.int .i64 0::.int .i64 0::.bool false::.int .u32 0::.int .u32 0::.int .i64 0::qO (qO (qO (qO (vE (vE [.int .u32 0,.int .u32 0,.int .u64 0,.int .u64 0,.vsl true [] 0,.vsl true [] 0,.vsl true [] 0,.vsl true [] 0]))))))))))∧qF 136 147 true 440 (.agg (qO (qO (qO (.int .i64 0::.int .i64 0::.int .i64 0::.bool false::.int .u32 0::.int .u32 0::.int .i64 0::qO (qO (qO (qO (vE (vE [.int .u32 0,.int .u32 0,.int .u64 0,.int .u64 0,.vsl true [] 0,.vsl true [] 0,.vsl true [] 0,.vsl true [] 0]))))))))))∧qF 140 1 false 8 (.int .u64 0)∧qqC 140∧j9 140 (.int .u64)∧qF 141 1 false 16 (.nili)∧qF 142 1 false 16 (.nili)∧qF 148 1 false 8 (.nilp):=by and_intros<;>show _=_<;>kernel_rfl
@[simp] theorem q3K:j9 148 (.pointer 202)∧qF 151 5 true 72 (.agg [.nilp,.vsl true [] 0,.int .i64 0,.vsl true [] 0,.bool false])∧qF 152 5 true 72 (.agg [.nilp,.vsl true [] 0,.int .i64 0,.vsl true [] 0,.bool false])∧qF 164 1 false 24 (.vsl true [] 0)∧j9 164 (.slice 230)∧qF 169 1 false 24 (.vsl true [] 0)∧j9 169 (.slice 177)∧qF 171 2 true 32 (.agg [.str [],.str []])∧qF 172 2 true 32 (.agg [.str [],.str []])∧qF 173 5 true 64 (.agg [.str [],.int .u64 0,.int .i64 0,.int .i64 0,.vsl true [] 0])∧qF 174 5 true 64 (.agg [.str [],.int .u64 0,.int .i64 0,.int .i64 0,.vsl true [] 0])∧qF 176 2 true 16 (.agg [.int .u64 0,.int .u64 0])∧qF 177 2 true 16 (.agg [.int .u64 0,.int .u64 0])∧qF 181 21 true 72 (.agg (.int .u64 0::.int .u64 0::.int .u64 0::qO [.int .u64 0,.vsl true [] 0]))∧qF 182 21 true 72 (.agg (.int .u64 0::.int .u64 0::.int .u64 0::qO [.int .u64 0,.vsl true [] 0]))∧qF 187 2 true 48 (.agg [.vsl true [] 0,.vsl true [] 0])∧qF 188 2 true 48 (.agg [.vsl true [] 0,.vsl true [] 0])∧qF 196 91 true 264 (.agg (.int .u32 0::.int .u32 0::.int .i64 0::qO (qO (qO (qO (vE (vE [.int .u64 0,.int .u32 0,.int .u32 0,.int .u64 0])))))))∧qF 197 91 true 264 (.agg (.int .u32 0::.int .u32 0::.int .i64 0::qO (qO (qO (qO (vE (vE [.int .u64 0,.int .u32 0,.int .u32 0,.int .u64 0])))))))∧qF 201 92 true 288 (.agg (.vsl true [] 0::.int .u32 0::.int .u32 0::.int .i64 0::qO (qO (qO (qO (vE (vE [.int .u64 0,.int .u32 0,.int .u32 0,.int .u64 0])))))))∧qF 202 92 true 288 (.agg (.vsl true [] 0::.int .u32 0::.int .u32 0::.int .i64 0::qO (qO (qO (qO (vE (vE [.int .u64 0,.int .u32 0,.int .u32 0,.int .u64 0])))))))∧qF 204 3 true 40 (.agg [.vsl true [] 0,.int .u64 0,.int .u64 0])∧qF 205 3 true 40 (.agg [.vsl true [] 0,.int .u64 0,.int .u64 0])∧qF 211 92 true 288 (.agg (.int .u32 0::.int .u32 0::.int .i64 0::qO (qO (qO (qO (vE (vE [.int .u32 0,.int .u32 0,.int .u64 0,.int .u64 0,.vsl true [] 0]))))))):=by and_intros<;>show _=_<;>kernel_rfl
@[simp] theorem q3J:qF 212 92 true 288 (.agg (.int .u32 0::.int .u32 0::.int .i64 0::qO (qO (qO (qO (vE (vE [.int .u32 0,.int .u32 0,.int .u64 0,.int .u64 0,.vsl true [] 0])))))))∧qF 214 2 true 32 (.agg [.int .u64 0,.vsl true [] 0])∧qF 215 2 true 32 (.agg [.int .u64 0,.vsl true [] 0])∧qF 229 2 true 16 (.agg [.int .u64 0,.int .u64 0])∧qF 230 2 true 16 (.agg [.int .u64 0,.int .u64 0])∧qF 236 7 true 72 (.agg (Xx [.int .u64 0,.int .u64 0,.vsl true [] 0]))∧qF 237 7 true 72 (.agg (Xx [.int .u64 0,.int .u64 0,.vsl true [] 0]))∧qF 246 1 false 8 (.int .i64 0)∧qqC 246∧j9 246 (.int .i64)∧qF 248 1 false 8 (.nilp)∧j9 248 (.pointer 299)∧qF 264 2 true 32 (.agg [.int .u64 0,.vsl true [] 0])∧qF 278 24 true 24 (.agg (qO (zb8 [])))∧j9 278 (.array 24 5)∧qF 290 4 true 48 (.agg [.int .u64 0,.int .u64 0,.int .u64 0,.vsl true [] 0])∧qF 291 4 true 48 (.agg [.int .u64 0,.int .u64 0,.int .u64 0,.vsl true [] 0])∧qF 293 4 true 32 (.agg (Xx []))∧j9 293 (.array 4 24)∧qF 298 3 true 48 (.agg [.str [],.str [],.nili])∧qF 299 3 true 48 (.agg [.str [],.str [],.nili])∧qF 307 1 false 24 (.vsl true [] 0)∧j9 307 (.slice 309)∧qF 309 1 false 8 (.nilp):=by and_intros<;>show _=_<;>kernel_rfl
@[simp] theorem q3I:j9 309 (.pointer 23)∧qF 310 1 false 24 (.vsl true [] 0)∧j9 310 (.slice 312)∧qF 312 1 false 8 (.nilp)∧j9 312 (.pointer 24)∧qF 322 65 true 65 (.agg (List.replicate 65 (.int .u8 0)))∧j9 322 (.array 65 5)∧qF 326 1 true 8 (.agg [.int .i64 0])∧qF 327 1 true 8 (.agg [.int .i64 0])∧qF 329 1 false 24 (.vsl true [] 0)∧j9 329 (.slice 333)∧qF 330 21 true 72 (.agg (.int .u64 0::.int .u64 0::.int .u64 0::qO [.int .u64 0,.vsl true [] 0]))∧qF 331 21 true 72 (.agg (.int .u64 0::.int .u64 0::.int .u64 0::qO [.int .u64 0,.vsl true [] 0]))∧qF 333 2 true 16 (.agg [.int .u64 0,.int .u64 0])∧qF 334 7 true 72 (.agg (Xx [.int .u64 0,.int .u64 0,.vsl true [] 0]))∧qF 337 256 true 256 (.agg (List.replicate 256 (.int .u8 0)))∧j9 337 (.array 256 5)∧qF 338 2 true 2 (.agg [.int .u8 0,.int .u8 0])∧qF 339 2 true 2 (.agg [.int .u8 0,.int .u8 0])∧qF 340 32 true 32 (.agg (List.replicate 32 (.int .u8 0)))∧j9 340 (.array 16 339)∧qF 342 1 false 8 (.nilp)∧j9 342 (.pointer 344)∧qF 343 1 true 16 (.agg [.str []]):=by and_intros<;>show _=_<;>kernel_rfl
@[simp] theorem q3H:qF 344 1 true 16 (.agg [.str []])∧qF 350 3 true 24 (.agg [.int .i64 0,.int .i64 0,.int .u64 0])∧qF 351 3 true 24 (.agg [.int .i64 0,.int .i64 0,.int .u64 0])∧qF 360 3 true 24 (.agg [.int .i64 0,.int .i64 0,.int .u64 0])∧qF 363 32 true 32 (.agg (List.replicate 32 (.int .u8 0)))∧j9 363 (.array 32 5)∧qF 364 64 true 64 (.agg (List.replicate 64 (.int .u8 0)))∧j9 364 (.array 64 5)∧qF 368 3 true 12 (.agg [.int .u32 0,.int .u32 0,.int .u32 0])∧qF 369 3 true 12 (.agg [.int .u32 0,.int .u32 0,.int .u32 0])∧qF 371 12 true 12 (.agg (zb8 [.int .u8 0,.int .u8 0,.int .u8 0,.int .u8 0]))∧j9 371 (.array 12 5)∧qF 377 1 false 8 (.nilp)∧j9 377 (.pointer 381)∧qF 380 6 true 64 (.agg (Xx [.int .i64 0,.vsl true [] 0]))∧qF 381 6 true 64 (.agg (Xx [.int .i64 0,.vsl true [] 0]))∧qF 382 8 true 8 (.agg (zb8 []))∧j9 382 (.array 8 5):=by and_intros<;>show _=_<;>kernel_rfl
@[simp] theorem pl3:ZT Tryz.prog 50 3 = some ([.i]):=by kernel_rfl
@[simp] theorem q3G:qqG 3:=by and_intros<;>show _=_<;>kernel_rfl
@[simp] theorem pl4:ZT Tryz.prog 50 4 = some ([.b]):=by kernel_rfl
@[simp] theorem q3F:qqG 4:=by and_intros<;>show _=_<;>kernel_rfl
@[simp] theorem pl5:ZT Tryz.prog 50 5 = some ([.i]):=by kernel_rfl
@[simp] theorem q3E:qqG 5:=by and_intros<;>show _=_<;>kernel_rfl
@[simp] theorem pl9:ZT Tryz.prog 50 9 = some ([.s]):=by kernel_rfl
@[simp] theorem q3D:qqG 9:=by and_intros<;>show _=_<;>kernel_rfl
@[simp] theorem q4A:ZT Tryz.prog 50 21 = some ([.i]):=by kernel_rfl
@[simp] theorem q3C:qqG 21:=by and_intros<;>show _=_<;>kernel_rfl
@[simp] theorem q49:ZT Tryz.prog 50 24 = some ([.i]):=by kernel_rfl
@[simp] theorem q3B:qqG 24:=by and_intros<;>show _=_<;>kernel_rfl
@[simp] theorem q47:ZT Tryz.prog 50 36 = some ((qfK [.i,.i,.i])):=by kernel_rfl
@[simp] theorem q39:qqG 36:=by and_intros<;>show _=_<;>kernel_rfl
@[simp] theorem q4C:ZT Tryz.prog 50 130 = some ([.i]):=by kernel_rfl
@[simp] theorem q38:qqG 130:=by and_intros<;>show _=_<;>kernel_rfl
@[simp] theorem q4B:ZT Tryz.prog 50 172 = some ([.s,.s]):=by kernel_rfl
@[simp] theorem q37:qqG 172:=by and_intros<;>show _=_<;>kernel_rfl
def qcc (n:Int):Bool:=n == 1 || n == 2 || n == 4 || n == 8
theorem qx6 [MaxL] [TxtC] (n:Int):call cx 236 [.int .i64 n] [] = some (.bool (qcc n),[]):=by
 refine qy Tryz.func236 rfl ⟨rfl,rfl⟩ ?_;unfold qcc;by_cases h1:n = 1
 ·subst h1;simp [Tryz.f236]
 ·by_cases h2:n = 2
  ·subst h2;simp [Tryz.f236]
  ·by_cases h3:n = 4
   ·subst h3;simp [Tryz.f236]
   ·simp [Tryz.f236,h1,h2,h3]
theorem qtP {n:Int} (h:qcc n = true):1≤n∧n≤8:=by
 simp [qcc] at h;omega
def Y2 (l:List UInt8) (at_ n:Int):Option Nat :=
 if qcc n = true∧0≤at_∧at_+n≤l.length then some (leN ((l.drop at_.toNat).take n.toNat)) else none
def qfn (o:Option Nat):D:=.tup [.int .u64 ((o.getD 0:Nat):Int),.bool o.isSome]
theorem bits64:2 ^ IntKind.u64.bits = 18446744073709551616:=by simp only [IntKind.bits]
theorem qx8 (x y:Nat) (hy:y < 256) (hx:x * 256+y < 18446744073709551616) :
  JK .u64 (IntKind.u64.wrap ((x:Int) * 256)) (y:Int) = ((x * 256+y:Nat):Int):=by
 have e3:x * 256 < 2 ^ IntKind.u64.bits:=Nat.lt_of_lt_of_eq (Nat.lt_of_le_of_lt (Nat.le_add_right _ _) hx) bits64.symm;have e4:y < 2 ^ IntKind.u64.bits:=Nat.lt_of_lt_of_eq (jZ hy (by decide)) bits64.symm;have e1:IntKind.u64.wrap ((x:Int) * 256) = ((x * 256:Nat):Int):=by clear e3 e4;rw [qca] <;> omega
 rw [e1,qg0 rfl e3 e4,qm5 x y hy]
set_option maxHeartbeats 1000000 in
theorem qjp [MaxL] [TxtC] (s:Sl UInt8) (at_ n:Int) (qI:-9223372036854775808≤at_∧at_ < 9223372036854775808) (hl:s.l.length < 4611686018427387904) :
  call cx 208 [(.vsl s.nil (qd s.l) s.l.length),.int .i64 at_,.int .i64 n] [] = some (qfn (Y2 s.l at_ n),[]):=by
 have hs:=qx6 n;refine qy Tryz.func208 rfl ⟨rfl,rfl⟩ ?_;cases hz:qcc n with
 | false =>
  rw [hz] at hs;simp [Tryz.f208,hs,Y2,hz,qfn]
 | true =>
  rw [hz] at hs;have hb:=qtP hz;by_cases h0:at_ < 0
  ·have qM:¬ 0≤at_:=by omega
   simp [Tryz.f208,hs,Y2,hz,qfn,h0,qM]
  ·have qM:0≤at_:=by omega
   have hw:=qx ((s.l.length:Int) - n) ((s.l.length:Int) - n);by_cases jx:at_+n≤s.l.length
   ·have Vh:¬ ((s.l.length:Int) - n < at_):=(by omega);obtain ⟨a,rfl⟩:∃ a:Nat,at_ = a:=⟨at_.toNat,by omega⟩
    obtain ⟨k,rfl⟩:∃ k:Nat,n = k:=⟨n.toNat,by omega⟩;have jb:=qx ((k:Int) - 1) ((k:Int) - 1);have zx:s.nil = false:=Sl.nn (i:=a) (by omega);simp [Tryz.f208,hs,Y2,hz,qfn,h0,qM,hw,jx,Vh,jb,zx];refine Run.loopThen (fun (i:Nat) e H=>i≤k∧H = []∧qi e 0 = some (.vsl s.nil (qd s.l) s.l.length)∧qi e 1 = some (.int .i64 a)∧qi e 8 = some (.int .u64 (leN ((s.l.drop (a+i)).take (k - i)):Nat))∧qi e 9 = some (.int .i64 ((i:Int) - 1))) (fun i=>i) k (by simp [leN,zx]) ?_;rintro i e H ⟨hi,rfl,h0,h1,h8,h9⟩;cases i with
    | zero=>simp [h0,h1,h8,h9]
    | succ j =>
     have hj:(0:Int)≤(j:Int):=(by omega);have hwj:=qx ((a:Int)+(j:Int)) ((a+j:Nat):Int);have hwk:=qx ((j:Int) - 1) ((j:Int) - 1);have qg:a+j < s.l.length:=(by omega);have qo:((a+j:Nat):Int) < (s.l.length:Int):=(by omega);have e1:((j+1:Nat):Int) - 1 = (j:Int):=(by omega);rw [e1] at h9
     have hd:(s.l.drop (a+j)).take (k - j) = s.l[a+j] :: (s.l.drop (a+(j+1))).take (k - (j+1)):=by
      rw [zU qg,show k - j = (k - (j+1))+1 by omega,qhC,qhB]
     have hn8:leN ((s.l.drop (a+(j+1))).take (k - (j+1))) < 256 ^ 7:=by
      refine jZ (qbu _) (YZ (by decide) ?_);rw [jU];omega
     have hst:=qx8 (leN ((s.l.drop (a+(j+1))).take (k - (j+1)))) s.l[a+j].toNat s.l[a+j].toNat_lt (by have:=s.l[a+j].toNat_lt;omega);have hwu:IntKind.u64.wrap (s.l[a+j].toNat:Int) = (s.l[a+j].toNat:Int):=(by rw [qca];have:=s.l[a+j].toNat_lt;omega);have g1:(0:Int)≤(a:Int)+(j:Int):=(by omega);have g2:(a:Int)+(j:Int) < (s.l.length:Int):=(by omega);have g3:((a:Int)+(j:Int)).toNat = a+j:=(by omega);simp [h0,h1,h8,h9,hj,hwj,hwk,hwu,zx,g1,g2,g3,vq qg,IntKind.bits];rw [hst];exact ⟨j,by omega,by omega,by rw [hd,leN,Nat.mul_comm,Nat.add_comm],rfl⟩
   ·have Vh:(s.l.length:Int) - n < at_:=by omega
    simp [Tryz.f208,hs,Y2,hz,qfn,h0,qM,hw,jx,Vh]
end Go.Ev.S
namespace Go.Ev
open Go Go.Proofs
def qC (b:List UInt8) (a:Nat):Nat:=leN ((b.drop a).take 8)
theorem qeb (b:List UInt8) (a:Nat):qC b a < 18446744073709551616:=by
 have h:=qbu ((b.drop a).take 8);have h8:((b.drop a).take 8).length≤8:=by simp;omega
 exact jZ h (zT (YZ (by decide) h8) (by decide))
def jq (b:List UInt8) (a:Nat):Nat :=
 if a % 8≠0 then 3
 else if b.length < a∨b.length - a < 16 then 2
 else if (b.getD a 0).toNat < 1∨7 < (b.getD a 0).toNat then 4
 else if (b.getD (a+1) 0).toNat≠0 then 7
 else if qC b (a+8) < 16 then 5
 else if b.length - a < qC b (a+8) then 2
 else 0
def ZG (b:List UInt8) (a:Nat):Nat:=(b.getD a 0).toNat
def vz (b:List UInt8) (a:Nat):Nat:=qC b (a+8)
theorem qaK {b:List UInt8} {a:Nat} (h:jq b a = 0):a % 8 = 0∧a+16≤b.length∧1≤ZG b a∧ZG b a≤7∧16≤vz b a∧a+vz b a≤b.length:=by
 unfold jq at h;unfold ZG vz;split at h
 · omega
 split at h
 · omega
 split at h
 · omega
 split at h
 · omega
 split at h
 · omega
 split at h
 · omega
 omega
def qB (b:List UInt8) (a:Nat):List UInt8:=(b.drop (a+16)).take (vz b a - 16)
theorem qdn {b:List UInt8} {a:Nat} (h:jq b a = 0):(qB b a).length = vz b a - 16:=by
 have:=qaK h;simp only [qB,jU,vQ];omega
def jw (l:List UInt8):List Nat:=(List.range (l.length / 8)).map fun i=>qC l (8 * i)
@[simp] theorem qan (l:List UInt8):(jw l).length = l.length / 8:=by simp [jw]
theorem qmJ {l:List UInt8} {i:Nat} (h:i < l.length / 8):(jw l)[i]? = some (qC l (8 * i)):=by
 simp [jw,h]
theorem qg4 {l:List UInt8} {x:Nat} (h:x∈jw l):x < 18446744073709551616:=by
 simp only [jw,ZM,List.mem_range] at h;obtain ⟨i,_,rfl⟩:=h;exact qeb _ _
def vD (b:List UInt8) (a kind ahead item:Nat):Nat :=
 if jq b a≠0 then jq b a
 else if ZG b a≠kind then 4
 else if vz b a≤16+ahead∨(vz b a - (16+ahead)) % item≠0 then 5
 else 0
def Z0 (b:List UInt8) (a:Nat):Nat:=vD b a 6 8 8
def jP (b:List UInt8) (a:Nat):List Nat:=jw (qB b a)
def vK (b:List UInt8) (sz a:Nat):Nat:=if a < sz∨b.length≤a then 2 else Z0 b a
def Z6 (b:List UInt8) (a:Nat):Bool:=decide (a = 0) || decide (b.length≤a)
def Vd (b:List UInt8) (most:Nat):List Nat→List Nat→List Nat × Option Nat
 | [],out=>(out,none)
 | x :: l,out=>if out.length = most then (out,none)
  else if Z6 b x then (out,some 2)
  else if 0 < out.length∧x≤out.getLastD 0 then (out,some 13)
  else Vd b most l (out ++ [x])
def XZ (b:List UInt8) (sz most:Nat):Nat→List Nat→Nat→Nat→List Nat × Nat
 | 0,out,_,_=>(out,0)
 | n+1,out,at_,ahead=>if most≤out.length then (out,0)
  else if Z6 b at_ then (out,14)
  else if at_≤ahead then (out,12)
  else if vK b sz at_≠0 then (out,vK b sz at_)
  else match Vd b most (jP b at_).tail out with
   | (out',some c)=>(out',c)
   | (out',none)=>XZ b sz most n out' ((jP b at_).headD 0) at_
structure HdP where
 compat:Nat
 incompat:Nat
 state:Nat
 file:ID
 machine:ID
 boot:ID
 seq:ID
 n:List Nat
 hn:n.length = 21
 ta:Nat
 ti:Nat
 te:Nat
def qJ (k:IntKind) (l:List Nat):List D:=l.map fun x:Nat=>D.int k (x:Int)
@[simp] theorem qje (k:IntKind) (l:List Nat):(qJ k l).length = l.length:=by simp [qJ]
@[simp] theorem qxc (k:IntKind) (l:List Nat):(qJ k l).all idFree = true:=by simp [qJ,idFree]
@[simp] theorem q6f (k:IntKind) (l:List Nat):idFree.idFreeL (qJ k l) = true:=by rw [kY];exact qxc k l
theorem qbs {k:IntKind} {l:List Nat} {i:Nat} (h:i < l.length):(qJ k l).drop i = .int k (l[i]:Nat) :: qJ k (l.drop (i+1)):=by
 unfold qJ;rw [← List.map_drop,zU h];rfl
theorem qg7 (k:IntKind) (a b:List Nat):qJ k (a ++ b) = qJ k a ++ qJ k b:=by simp [qJ]
instance:Enc HdP:=⟨91,fun h=>.int .u32 h.compat :: .int .u32 h.incompat :: .int .i64 h.state :: (qd h.file.l ++ (qd h.machine.l ++ (qd h.boot.l ++ (qd h.seq.l ++ (qJ .u64 h.n ++ [.int .u32 h.ta,.int .u32 h.ti,.int .u64 h.te]))))),
 fun h=>by simp [h.hn],fun h=>by simp [idFree]⟩
theorem HdP.cells (h:HdP):Enc.cells h = .int .u32 h.compat :: .int .u32 h.incompat :: .int .i64 h.state :: (qd h.file.l ++ (qd h.machine.l ++ (qd h.boot.l ++ (qd h.seq.l ++ (qJ .u64 h.n ++ [.int .u32 h.ta,.int .u32 h.ti,.int .u64 h.te]))))):=rfl
@[simp] theorem HdP.size:Enc.size HdP = 91:=rfl
@[simp] theorem HdP.cl (a:HdP):(Enc.cells a).length = 91:=Enc.len a
@[simp] theorem HdP.ct (a:HdP) (r:List D):(Enc.cells a ++ r).take 91 = Enc.cells a:=qdg rfl a r
@[simp] theorem HdP.ct' (a:HdP):(Enc.cells a).take 91 = Enc.cells a:=qdf rfl a
@[simp] theorem HdP.cd (a:HdP) (r:List D):(Enc.cells a ++ r).drop 91 = r:=qdh rfl a r
@[simp] theorem HdP.el (l:List HdP):(qu l).length = l.length * 91:=qaP rfl l
@[simp] theorem HdP.ed (l:List HdP) (i:Nat):(qu l).drop (i * 91) = qu (l.drop i):=qaQ rfl l i
@[simp] theorem HdP.et (l:List HdP) (i:Nat):(qu l).take (i * 91) = qu (l.take i):=qaO rfl l i
@[simp high] theorem HdP.ea {l:List HdP} {i:Nat} (h:i < l.length):(qu l).drop (i * 91) = Enc.cells l[i] ++ qu (l.drop (i+1)):=YS rfl h
@[simp high] theorem HdP.es (m:HdP) {l:List HdP} {j:Nat} (h:j < l.length):zM (qu l) (j * 91) (Enc.cells m) = qu (l.set j m):=Ya rfl m l h
def HdP.g (h:HdP) (i:Nat):Nat:=h.n.getD i 0
theorem HdP.d1 (h:HdP):(Enc.cells h).drop 1 = .int .u32 h.incompat :: (Enc.cells h).drop 2:=by simp [HdP.cells]
theorem HdP.d2 (h:HdP):(Enc.cells h).drop 2 = .int .i64 h.state :: (Enc.cells h).drop 3:=by simp [HdP.cells]
theorem HdP.d3 (h:HdP):((Enc.cells h).drop 3).take 16 = qd h.file.l:=by simp [HdP.cells]
theorem HdP.dn (h:HdP) {i:Nat} (hi:i < 21):(Enc.cells h).drop (67+i) = .int .u64 (h.g i:Nat) :: (Enc.cells h).drop (68+i):=by
 have hl:i < h.n.length:=by rw [h.hn];exact hi
 have key:∀ j,j≤21→(Enc.cells h).drop (67+j) = (qJ .u64 h.n ++ ([.int .u32 h.ta,.int .u32 h.ti,.int .u64 h.te]:List D)).drop j:=by
  intro j hj
  have h2:∀ (k:Nat) (l r:List D) (a:Nat),l.length = a→(l ++ r).drop (a+k) = r.drop k:=by
   intro k l r a hl;rw [← jV,kE hl]
  rw [HdP.cells,show 67+j = (16+(16+(16+(16+j))))+1+1+1 by omega,List.drop_succ_cons,List.drop_succ_cons,List.drop_succ_cons,h2 _ _ _ 16 (by simp),h2 _ _ _ 16 (by simp),h2 _ _ _ 16 (by simp),h2 _ _ _ 16 (by simp)]
 rw [key i (by omega),show 68+i = 67+(i+1) by omega,key (i+1) (by omega),List.drop_append_of_le_length (by simp;omega),List.drop_append_of_le_length (by simp [h.hn];omega),qbs hl,Qw];congr 2
 ·simp [HdP.g,hl]
 ·unfold qJ;rw [List.map_drop]
def HdP.siz (h:HdP):Nat:=h.g 0
def HdP.arena (h:HdP):Nat:=h.g 1
def HdP.ents (h:HdP):Nat:=h.g 8
def HdP.arr (h:HdP):Nat:=h.g 11
def vS (b:List UInt8) (a:Nat):Nat:=leN ((b.drop a).take 4)
theorem qec (b:List UInt8) (a:Nat):vS b a < 4294967296:=by
 have h:=qbu ((b.drop a).take 4);have h8:((b.drop a).take 4).length≤4:=by simp;omega
 exact jZ h (zT (YZ (by decide) h8) (by decide))
def Zq (b:List UInt8) (a:Nat):ID:=if h:((b.drop a).take 16).length = 16 then ⟨(b.drop a).take 16,h⟩ else ID.zero
theorem qdJ {b:List UInt8} {a:Nat} (h:a+16≤b.length):(Zq b a).l = (b.drop a).take 16:=by
 have:((b.drop a).take 16).length = 16:=by simp;omega
 simp [Zq,this]
def qG (b:List UInt8):HdP where
 compat:=vS b 8
 incompat:=vS b 12
 state:=(b.getD 16 0).toNat
 file:=Zq b 24
 machine:=Zq b 40
 boot:=Zq b 56
 seq:=Zq b 72
 n:=(List.range 21).map fun i=>qC b (88+8 * i)
 hn:=by simp
 ta:=vS b 256
 ti:=vS b 260
 te:=qC b 264
theorem qqZ (b:List UInt8) {i:Nat} (h:i < 21):(qG b).g i = qC b (88+8 * i):=by
 simp [qG,HdP.g,h]
theorem qaD (b:List UInt8) (i:Nat):(qG b).g i < 18446744073709551616:=by
 by_cases h:i < 21
 ·rw [qqZ b h];exact qeb _ _
 ·have:(qG b).g i = 0:=by
   simp only [HdP.g,j8];rw [List.getElem?_eq_none (by rw [(qG b).hn];omega)];rfl
  omega
def HdP.endC (h:HdP):Bool:=decide (h.g 0+h.g 1 < 18446744073709551616)
def HdP.endN (h:HdP):Nat:=if h.g 0+h.g 1 < 18446744073709551616 then h.g 0+h.g 1 else 0
def Yl (from_ a size till:Nat):Nat :=
 if a % 8≠0 then 3
 else if size = 0∨size % 16≠0 then 5
 else if a < from_∨a - from_ < 16∨till < a∨till - a < size then 2
 else 0
def signL:List UInt8:=[76,80,75,83,72,72,82,72]
def Je (h:HdP) (len:Nat):Nat :=
 if qbS .u32 h.incompat 4≠0 then 7
 else if 2 < h.state then 8
 else if h.g 0 < 272∨h.g 0 % 8≠0∨h.g 1 % 8≠0 then 5
 else if h.endC = false∨len < h.endN then 2
 else if Yl (h.g 0) (h.g 2) (h.g 3) h.endN≠0 then Yl (h.g 0) (h.g 2) (h.g 3) h.endN
 else Yl (h.g 0) (h.g 4) (h.g 5) h.endN
def zy (b:List UInt8):Nat :=
 if b.length < 272 then 22
 else if b.take 8≠signL then 6
 else Je (qG b) b.length
end Go.Ev
namespace Go.Ev.S
open Go Go.Proofs Go.Ev
theorem qbt [MaxL] [TxtC] (s:Sl UInt8) (a:Nat) (h:a+8≤s.l.length) (hl:s.l.length < 4611686018427387904) {x:Int} (hx:x = a):call cx 208 [(.vsl s.nil (qd s.l) s.l.length),.int .i64 x,.int .i64 8] [] = some (.tup [.int .u64 (qC s.l a:Nat),.bool true],[]):=by
 subst hx;have:=qjp s a 8 (by omega) hl;rw [this]
 have e1:Y2 s.l a 8 = some (qC s.l a):=by
  unfold Y2 qC;simp [qcc];omega
 rw [e1];rfl
theorem qx9 [MaxL] [TxtC] (s:Sl UInt8) (a:Nat) (h:a+4≤s.l.length) (hl:s.l.length < 4611686018427387904) {x:Int} (hx:x = a):call cx 208 [(.vsl s.nil (qd s.l) s.l.length),.int .i64 x,.int .i64 4] [] = some (.tup [.int .u64 (vS s.l a:Nat),.bool true],[]):=by
 subst hx;have:=qjp s a 4 (by omega) hl;rw [this]
 have e1:Y2 s.l a 4 = some (vS s.l a):=by
  unfold Y2 vS;simp [qcc];omega
 rw [e1];rfl
def km (b:List UInt8) (a:Nat):D:=if jq b a = 0 then .agg [.int .i64 (ZG b a:Nat),.int .i64 0,.int .u64 (vz b a:Nat)] else .agg [.int .i64 0,.int .i64 0,.int .u64 0]
set_option maxHeartbeats 2000000 in
set_option maxRecDepth 8000 in
theorem qmH [MaxL] [TxtC] (s:Sl UInt8) (hl:s.l.length≤1000000) (a:Nat) (ha:a < 18446744073709551616):call cx 250 [(.vsl s.nil (qd s.l) s.l.length),.int .u64 a] [] = some (.tup [km s.l a,.int .i64 (jq s.l a)],[]):=by
 refine qy Tryz.func250 rfl ⟨rfl,rfl⟩ ?_;have hw:=qN (s.l.length:Int) (s.l.length:Int);have ht:(a:Int).tmod 8 = ((a % 8:Nat):Int):=rfl;by_cases h1:a % 8≠0
 ·have hC:jq s.l a = 3:=by unfold jq;rw [if_pos h1]
  have zg:((a:Int).tmod 8 != 0) = true:=by rw [ht];simp only [bne_iff_ne,ne_eq];omega
  simp [Tryz.f250,km,hC,hw,zg]
 have zg:((a:Int).tmod 8 != 0) = false:=by rw [ht];simp only [bne_eq_false_iff_eq];omega
 by_cases h2:s.l.length < a∨s.l.length - a < 16
 ·have hC:jq s.l a = 2:=by unfold jq;rw [if_neg h1,if_pos h2]
  by_cases h3:s.l.length < a
  ·have vl:=zI h3;simp [Tryz.f250,km,hC,hw,zg,vl]
  ·have vl:=zL h3;have qZ:=qN ((s.l.length:Int) - (a:Int)) ((s.l.length:Int) - (a:Int));have h4:(s.l.length:Int) - (a:Int) < 16:=(by omega);simp [Tryz.f250,km,hC,hw,zg,vl,qZ,h4]
 have vl:¬ (s.l.length:Int) < (a:Int):=by omega
 have qZ:=qN ((s.l.length:Int) - (a:Int)) ((s.l.length:Int) - (a:Int));have h4:¬ (s.l.length:Int) - (a:Int) < 16:=by omega
 have la:a < s.l.length:=by omega
 have la1:a+1 < s.l.length:=by omega
 have qU:s.nil = false:=Sl.nn la;have g8:=qbt s (a+8) (by omega) (by omega) (x:=(a:Int)+8) (by omega);have q1:(a:Int) < (s.l.length:Int):=by omega
 have q2:(a:Int)+1 < (s.l.length:Int):=by omega
 have w1:=qN ((a:Int)+1) ((a:Int)+1);have w2:=qx (a:Int) (a:Int);have w3:=qx ((a:Int)+8) ((a:Int)+8);have o1:=vq la;have o2:=vq la1;have b1:=s.l[a].toNat_lt;have b2:=s.l[a+1].toNat_lt;have eK:(s.l.getD a 0).toNat = s.l[a].toNat:=by simp [la]
 have eF:(s.l.getD (a+1) 0).toNat = s.l[a+1].toNat:=by simp [la1]
 have n2:((a:Int)+1).toNat = a+1:=by omega
 have hS:=qeb s.l (a+8)
 have hC:jq s.l a = if s.l[a].toNat < 1∨7 < s.l[a].toNat then 4 else if s.l[a+1].toNat≠0 then 7 else if qC s.l (a+8) < 16 then 5 else if s.l.length - a < qC s.l (a+8) then 2 else 0:=by
  unfold jq;rw [if_neg h1,if_neg h2,eK,eF]
 have hK:ZG s.l a = s.l[a].toNat:=eK;obtain ⟨S,eS⟩:=ql (qC s.l (a+8));have hSS:vz s.l a = S:=eS;rw [eS] at hC g8 hS;generalize s.l[a] = K at *;generalize s.l[a+1] = F at *;have w4:=qx (K.toNat:Int) (K.toNat:Int);have w5:=qx (F.toNat:Int) (F.toNat:Int);have q3:(0:Int)≤(a:Int)+1:=by omega
 rw [qU] at g8;have z0:(0:Nat) < 4:=by omega
 by_cases k1:K.toNat < 1
 ·rw [if_pos (.inl k1)] at hC;have k1':(K.toNat:Int) < 1:=by omega
  simp [Tryz.f250,km,hC,hw,zg,vl,qZ,h4,qU,q1,q2,q3,w1,w2,w3,o1,o2,n2,w4,w5,g8,k1']
 have k1':¬ (K.toNat:Int) < 1:=by omega
 by_cases k2:7 < K.toNat
 ·rw [if_pos (.inr k2)] at hC;have k2':(7:Int) < (K.toNat:Int):=by omega
  simp [Tryz.f250,km,hC,hw,zg,vl,qZ,h4,qU,q1,q2,q3,w1,w2,w3,o1,o2,n2,w4,w5,g8,k1',k2']
 have k2':¬ (7:Int) < (K.toNat:Int):=by omega
 rw [if_neg (by omega)] at hC;by_cases k3:F.toNat≠0
 ·rw [if_pos k3] at hC;have k3':((F.toNat:Int) != 0) = true:=kr;simp [Tryz.f250,km,hC,hw,zg,vl,qZ,h4,qU,q1,q2,q3,w1,w2,w3,o1,o2,n2,w4,w5,g8,k1',k2',k3']
 rw [if_neg k3] at hC;have k3':F.toNat = 0:=by omega
 rw [k3'] at w5 o2;by_cases k4:S < 16
 ·rw [if_pos k4] at hC;have k4':(S:Int) < 16:=by omega
  simp [Tryz.f250,km,hC,hw,zg,vl,qZ,h4,qU,q1,q2,q3,w1,w2,w3,o1,o2,n2,w4,g8,k1',k2',k4']
 have k4':¬ (S:Int) < 16:=by omega
 rw [if_neg k4] at hC;by_cases k5:s.l.length - a < S
 ·rw [if_pos k5] at hC;have k5':(s.l.length:Int) - (a:Int) < (S:Int):=by omega
  simp [Tryz.f250,km,hC,hw,zg,vl,qZ,h4,qU,q1,q2,q3,w1,w2,w3,o1,o2,n2,w4,g8,k1',k2',k4',k5']
 ·rw [if_neg k5] at hC;have k5':¬ (s.l.length:Int) - (a:Int) < (S:Int):=by omega
  simp [Tryz.f250,km,hC,hw,zg,vl,qZ,h4,qU,q1,q2,q3,w1,w2,w3,o1,o2,n2,w4,g8,k1',k2',k4',k5',hK,hSS]
def Zz (b:List UInt8) (a kind ahead item:Nat):D:=if vD b a kind ahead item = 0 then .vsl false (qd (qB b a)) (qB b a).length else .vsl true [] 0
set_option maxHeartbeats 2000000 in
set_option maxRecDepth 8000 in
theorem qsb [MaxL] [TxtC] (s:Sl UInt8) (hl:s.l.length≤1000000) (a:Nat) (ha:a < 18446744073709551616) (kind ahead item:Nat) (hk:kind≤100) (hah:ahead≤100) (hit:1≤item∧item≤100) :
  call cx 237 [(.vsl s.nil (qd s.l) s.l.length),.int .u64 a,.int .i64 kind,.int .i64 ahead,.int .i64 item] [] = some (.tup [Zz s.l a kind ahead item,.int .i64 (vD s.l a kind ahead item)],[]):=by
 have hr:=qmH s hl a ha;refine qy Tryz.func237 rfl ⟨rfl,rfl⟩ ?_;have jb:=qx (16+(ahead:Int)) (16+(ahead:Int));have qZ:=qN (16+(ahead:Int)) (16+(ahead:Int));by_cases h0:jq s.l a≠0
 ·have hC:vD s.l a kind ahead item = jq s.l a:=by unfold vD;rw [if_pos h0]
  have hB:Zz s.l a kind ahead item = .vsl true [] 0:=by unfold Zz;rw [hC,if_neg h0]
  have hF:km s.l a = .agg [.int .i64 0,.int .i64 0,.int .u64 0]:=by unfold km;rw [if_neg h0]
  rw [hF] at hr;have qM:(((jq s.l a:Nat):Int) != 0) = true:=kr;obtain ⟨C,hCC⟩:=ql (jq s.l a);rw [hCC] at hr hC qM;rw [hB,hC];simp [Tryz.f237,hr,jb,qZ,qM]
 have qM:jq s.l a = 0:=by omega
 obtain ⟨f1,f2,f3,f4,f5,f6⟩:=qaK qM;have hF:km s.l a = .agg [.int .i64 (ZG s.l a:Nat),.int .i64 0,.int .u64 (vz s.l a:Nat)]:=by unfold km;rw [if_pos qM]
 rw [hF,qM] at hr;obtain ⟨K,hK⟩:=ql (ZG s.l a);obtain ⟨S,hS⟩:=ql (vz s.l a);rw [hK,hS] at hr;rw [hK] at f3 f4;rw [hS] at f5 f6;by_cases h1:K = kind
 rotate_left
 ·have hC:vD s.l a kind ahead item = 4:=by unfold vD;rw [if_neg h0,hK,if_pos h1]
  have hB:Zz s.l a kind ahead item = .vsl true [] 0:=by unfold Zz;rw [hC];rfl
  have zg:((K:Int) != (kind:Int)) = true:=kr;rw [hB,hC];simp [Tryz.f237,hr,jb,qZ,zg]
 subst h1;by_cases h2:S≤16+ahead
 ·have hC:vD s.l a K ahead item = 5:=by unfold vD;rw [if_neg h0,hK,if_neg (by simp),hS,if_pos (.inl h2)]
  have hB:Zz s.l a K ahead item = .vsl true [] 0:=by unfold Zz;rw [hC];rfl
  have zH:(S:Int)≤16+(ahead:Int):=by omega
  rw [hB,hC];simp [Tryz.f237,hr,jb,qZ,zH]
 have zH:¬ (S:Int)≤16+(ahead:Int):=by omega
 obtain ⟨d,hd⟩:∃ d:Nat,S - (16+ahead) = d:=⟨_,rfl⟩;have Zf:IntKind.u64.wrap ((S:Int) - (16+(ahead:Int))) = (d:Int):=by rw [qca];all_goals omega
 have ZW:=qN (item:Int) (item:Int);have hz:¬ item = 0:=by omega
 have ht:(d:Int).tmod (item:Int) = ((d % item:Nat):Int):=rfl;by_cases h3:d % item≠0
 ·have hC:vD s.l a K ahead item = 5:=by unfold vD;rw [if_neg h0,hK,if_neg (by simp),hS,hd,if_pos (.inr h3)]
  have hB:Zz s.l a K ahead item = .vsl true [] 0:=by unfold Zz;rw [hC];rfl
  have vl:((d:Int).tmod (item:Int) != 0) = true:=by rw [ht];simp only [bne_iff_ne,ne_eq];omega
  rw [hB,hC];simp [Tryz.f237,hr,jb,qZ,zH,Zf,ZW,hz,vl]
 ·have hC:vD s.l a K ahead item = 0:=by unfold vD;rw [if_neg h0,hK,if_neg (by simp),hS,hd,if_neg (by omega)]
  have hB:Zz s.l a K ahead item = .vsl false (qd (qB s.l a)) (qB s.l a).length:=by unfold Zz;rw [hC];rfl
  have vl:((d:Int).tmod (item:Int) != 0) = false:=by rw [ht];simp only [bne_eq_false_iff_eq];omega
  have jM:=qdn qM;have qU:s.nil = false:=Sl.nn (i:=a) (by omega);have XE:=qN ((a:Int)+16) ((a:Int)+16);have Y8:=qN ((a:Int)+(S:Int)) ((a:Int)+(S:Int));have q1:(0:Int)≤(a:Int)+(S:Int)∧(a:Int)+(S:Int)≤(s.l.length:Int)∧(0:Int)≤(a:Int)+16∧(a:Int)+16≤(a:Int)+(S:Int):=by omega
  have n1:((a:Int)+16).toNat = a+16:=by omega
  have n2:((a:Int)+(S:Int)).toNat = a+S:=by omega
  have n3:a+S - (a+16) = S - 16:=by omega
  have jy:qB s.l a = (s.l.drop (a+16)).take (S - 16):=by unfold qB;rw [hS]
  rw [hB,hC,jM,hS];rw [qU] at hr;simp [Tryz.f237,hr,jb,qZ,zH,Zf,ZW,hz,vl,qU,XE,Y8,q1,n1,n2,n3,jy];simp [qd,List.map_take,List.map_drop]
end Go.Ev.S
namespace Go.Ev
open Go Go.Proofs
def qK (l:List Nat):List D:=l.map fun x=>.int .u64 (x:Nat)
@[simp] theorem Z8 (l:List Nat):(qK l).length = l.length:=by simp [qK]
theorem qer (l:List Nat) (x:Nat):qK (l ++ [x]) = qK l ++ [.int .u64 (x:Nat)]:=by simp [qK]
@[simp] theorem qmP:qK [] = []:=rfl
theorem qxd (x:Nat) (l:List Nat):qK (x :: l) = .int .u64 (x:Nat) :: qK l:=rfl
@[simp] theorem qkz (s:List Nat):(qK s).all idFree = true:=by simp [qK,idFree]
@[simp] theorem q3k (n:Nat) (s:List Nat):(qK s).all (closed n) = true:=by simp [qK,closed]
@[simp] theorem qsU (s:List Nat):(qK s).all vFree = true:=by simp [qK,vFree]
@[simp] theorem qqH (s:List Nat):idFree.idFreeL (qK s) = true:=by rw [kY];exact qkz s
@[simp] theorem q3z (s:List Nat):vFree.vFreeL (qK s) = true:=by exact (qga _).2 (List.all_eq_true.1 (qsU s))
@[simp] theorem q7b (n:Nat) (s:List Nat):closed.closedL n (qK s) = true:=YT n _ (qqH s)
@[simp] theorem q31 {s:List Nat} {n:Nat} (h:s.length≤n):(qK s).take n = qK s:=qP (by simpa using h)
@[simp] theorem qjf (s:List Nat):(∀ x,x∈qK s→idFree x = true) = True:=eq_true (List.all_eq_true.1 (qkz s))
@[simp] theorem q6h (s:List Nat) (n:Nat):(∀ x,x∈qK s→closed n x = true) = True:=eq_true (List.all_eq_true.1 (q3k n s))
@[simp] theorem q6g (s:List Nat):(∀ x,x∈qK s→vFree x = true) = True:=eq_true (List.all_eq_true.1 (qsU s))
def qhI (d:D) (H:qe) (l:List D):Prop:=(d = .vsl true [] 0∧l = []∧H = [])∨(d = .osl 0 l.length 0 l.length 1∧H = [some l]∧l≠[])
theorem qmI {l:List UInt8} {k:Nat} (h:k < l.length / 8):(jw l).take (k+1) = (jw l).take k ++ [qC l (8 * k)]:=by
 rw [List.take_add_one,qmJ h];rfl
end Go.Ev
namespace Go.Ev.S
open Go Go.Proofs Go.Ev
def qdC (l:List UInt8):D:=.vsl (decide (l.length = 0)) (qK (jw l)) (jw l).length
set_option maxHeartbeats 1000000 in
theorem qrT [MaxL] [TxtC] (s:Sl UInt8) (hl:s.l.length≤1000000) (h8:s.l.length % 8 = 0):call cx 238 [(.vsl s.nil (qd s.l) s.l.length)] [] = some (qdC s.l,[]):=by
 refine qy Tryz.func238 rfl ⟨rfl,rfl⟩ ?_;simp [Tryz.f238,-qd7];refine Run.loopThen (fun (k:Nat) e H=>8 * k≤s.l.length∧(∃ d,qi e 3 = some d∧qhI d H (qK ((jw s.l).take k)))∧qi e 0 = some (.vsl s.nil (qd s.l) s.l.length)∧qi e 4 = some (.int .i64 (8 * (k:Int)))) (fun k=>s.l.length - 8 * k) 0 (by simp [qhI,qK]) ?_;rintro k e H ⟨hk,⟨d,k3,qbC⟩,k0,k4⟩;by_cases qg:8 * k < s.l.length
 ·have qo:8 * (k:Int) < (s.l.length:Int):=by omega
  have hw:=qx (8 * (k:Int)+8) (8 * ((k+1:Nat):Int));have hg:=qbt s (8 * k) (by omega) (by omega) (x:=8 * (k:Int)) (by omega);have hsn:=qer ((jw s.l).take k) (qC s.l (8 * k));rw [← qmI (by omega)] at hsn;have hL:(qK ((jw s.l).take k)).length≤1000000:=by simp;omega
  have qU:s.nil = false:=Sl.nn (i:=8 * k) qg;rw [qU] at hg k0;have hI:=qjf ((jw s.l).take k);generalize qK ((jw s.l).take k) = l at *;generalize qC s.l (8 * k) = c at *;have Zt:(l.length+1) * 8≤140737488355328:=by omega
  have YC:l.length+1≤140737488355328:=by omega
  rcases qbC with ⟨rfl,rfl,rfl⟩ | ⟨rfl,rfl,qQ⟩
  ·simp [k0,k3,k4,qo,hw,hg,qD];exact ⟨k+1,by omega,by omega,.inr (by simp [hsn]),qU,by omega⟩
  ·simp [k0,k3,k4,qo,hw,hg,qD,Zt,YC,hI];exact ⟨k+1,by omega,by omega,.inr (by simp [hsn]),qU,by omega⟩
 ·have qo:¬ 8 * (k:Int) < (s.l.length:Int):=by omega
  have hN:(jw s.l).take k = jw s.l:=qP (by simp;omega);rw [hN] at qbC;rcases qbC with ⟨rfl,qU,rfl⟩ | ⟨rfl,rfl,qQ⟩
  ·have hz:s.l.length = 0:=by
    have:=congrArg List.length qU;simp at this;omega
   have hz':s.l = []:=List.length_eq_zero_iff.1 hz;have hD:qdC s.l = .vsl true [] 0:=(by simp [qdC,hz',jw]);rw [hD];simp [k0,k3,k4,qo]
  ·have hz:¬ s.l = []:=fun h=>qQ (by rw [h];rfl);simp [k0,k3,k4,qo,qdC,hz]
def qbR (b:List UInt8) (a:Nat):D:=if Z0 b a = 0 then .agg [.int .u64 ((jP b a).headD 0:Nat),.vsl false (qK (jP b a).tail) (jP b a).tail.length] else .agg [.int .u64 0,.vsl true [] 0]
set_option maxHeartbeats 1000000 in
theorem qvM [MaxL] [TxtC] (s:Sl UInt8) (hl:s.l.length≤1000000) (a:Nat) (ha:a < 18446744073709551616):call cx 213 [(.vsl s.nil (qd s.l) s.l.length),.int .u64 a] [] = some (.tup [qbR s.l a,.int .i64 (Z0 s.l a)],[]):=by
 have hb:call cx 237 [(.vsl s.nil (qd s.l) s.l.length),.int .u64 a,.int .i64 6,.int .i64 8,.int .i64 8] [] = some (.tup [Zz s.l a 6 8 8,.int .i64 (vD s.l a 6 8 8)],[]):=qsb s hl a ha 6 8 8 (by omega) (by omega) (by omega);refine qy Tryz.func213 rfl ⟨rfl,rfl⟩ ?_;have hB:vD s.l a 6 8 8 = Z0 s.l a:=rfl;by_cases h0:Z0 s.l a≠0
 ·have qM:(((Z0 s.l a:Nat):Int) != 0) = true:=kr;have e1:Zz s.l a 6 8 8 = .vsl true [] 0:=by unfold Zz;rw [hB,if_neg h0]
  have e2:qbR s.l a = .agg [.int .u64 0,.vsl true [] 0]:=by unfold qbR;rw [if_neg h0]
  rw [e1,hB] at hb;rw [e2];obtain ⟨C,hC⟩:=ql (Z0 s.l a);rw [hC] at hb qM ⊢;simp [Tryz.f213,hb,qM]
 have qM:Z0 s.l a = 0:=by omega
 have e1:Zz s.l a 6 8 8 = .vsl false (qd (qB s.l a)) (qB s.l a).length:=by unfold Zz;rw [hB,if_pos qM]
 have e2:qbR s.l a = .agg [.int .u64 ((jP s.l a).headD 0:Nat),.vsl false (qK (jP s.l a).tail) (jP s.l a).tail.length]:=by unfold qbR;rw [if_pos qM]
 have f0:jq s.l a = 0:=by
  unfold Z0 vD at qM;split at qM
  ·omega
  ·omega
 have jn:¬ (vz s.l a≤16+8∨(vz s.l a - (16+8)) % 8≠0):=by
  unfold Z0 vD at qM;rw [if_neg (by omega)] at qM;split at qM
  ·omega
  split at qM
  ·omega
  ·assumption
 have jM:=qdn f0;have hfr:=qaK f0;have jB:=qrT (Sl.mk false (qB s.l a) (by simp)) (by simp only;omega) (by simp only;omega);simp only at jB;have hN:(jw (qB s.l a)).length≠0:=by rw [qan];omega
 have hD:qdC (qB s.l a) = .vsl false (qK (jP s.l a)) (jP s.l a).length:=by
  unfold qdC;rw [decide_eq_false (by omega)];rfl
 rw [hD] at jB;have Xl:(jP s.l a).length≠0:=hN;rw [e2,qM];rw [e1,hB,qM] at hb;generalize jP s.l a = l at *;cases l with
 | nil=>simp at Xl
 | cons x l =>
  have J7:(1:Int)≤(l.length:Int)+1:=by omega
  simp [Tryz.f213,hb,jB,qxd,J7]
end Go.Ev.S
namespace Go.Ev
open Go Go.Proofs
section
variable {P:Program} {n:Nat} {t e:TypeId} {cs:List D}
theorem qj4 {k:IntKind} (hu:P.underlying t = some (.int k)) (h:vR P (n+1) t cs):∃ x,cs = [.int k x]∧(Lit.int k x).wf = true:=by
 unfold vR at h;rw [hu] at h;exact h
theorem qrc (hu:P.underlying t = some (.int .u64)) (h:vR P (n+1) t cs):∃ x,cs = [.int .u64 x]∧j5 x:=by
 obtain ⟨x,h1,h2⟩:=qj4 hu h;refine ⟨x,h1,?_⟩;simp [Lit.wf,IntKind.min,IntKind.max,IntKind.signed,IntKind.bits] at h2;unfold j5;omega
def qjx (n:Int):Prop:= -9223372036854775808≤n∧n < 9223372036854775808
theorem qrf (hu:P.underlying t = some (.int .i64)) (h:vR P (n+1) t cs):∃ x,cs = [.int .i64 x]∧qjx x:=by
 obtain ⟨x,h1,h2⟩:=qj4 hu h;refine ⟨x,h1,?_⟩;simp [Lit.wf,IntKind.min,IntKind.max,IntKind.signed,IntKind.bits] at h2;unfold qjx;omega
theorem q0b (hu:P.underlying t = some (.int .u8)) (h:vR P (n+1) t cs):∃ x:UInt8,cs = [.int .u8 x.toNat]:=by
 obtain ⟨x,h1,h2⟩:=qj4 hu h;simp [Lit.wf,IntKind.min,IntKind.max,IntKind.signed,IntKind.bits] at h2;refine ⟨UInt8.ofNat x.toNat,?_⟩;rw [h1,qeE (by simp;omega)];congr 2;omega
theorem qrd (hu:P.underlying t = some .string) (h:vR P (n+1) t cs):∃ s,cs = [.str s]∧s.length≤maxLen:=by
 unfold vR at h;rw [hu] at h;exact h
theorem qiz {e:TypeId} (hu:P.underlying e = some (.int .u8)):∀ (ls:List (List D)),(∀ l,l∈ls→l.length = P.cellsOf e∧vR P (n+1) e l)→∃ s:List UInt8,ls.flatten = qd s∧s.length = ls.length
 | [],_=>⟨[],rfl,rfl⟩
 | l :: ls,h=>by
  obtain ⟨x,hx⟩:=q0b hu (h l (VW ..)).2;obtain ⟨s,h1,h2⟩:=qiz hu ls fun l' hl=>h l' (Jr _ hl);exact ⟨x :: s,by rw [qeG,hx,h1];rfl,by simp [h2]⟩
theorem q0d (hu:P.underlying t = some (.array 16 e)) (he:P.underlying e = some (.int .u8)) (h:vR P (n+2) t cs):∃ i:ID,cs = qd i.l:=by
 unfold vR at h;rw [hu] at h;obtain ⟨ls,h1,h2,h3⟩:=h;obtain ⟨s,s1,s2⟩:=qiz he ls h3;exact ⟨⟨s,by omega⟩,by rw [h1,s1]⟩
theorem q0e (hu:P.underlying t = some (.slice e)) (he:P.underlying e = some (.int .u8)) (h:vR P (n+2) t cs):∃ s:Sl UInt8,cs = [(.vsl s.nil (qd s.l) s.l.length)]∧s.l.length≤maxLen:=by
 unfold vR at h;rw [hu] at h;rcases h with rfl | ⟨ls,h1,h2,h3⟩
 ·exact ⟨.none,rfl,by simp⟩
 ·obtain ⟨s,s1,s2⟩:=qiz he ls h3;exact ⟨.of s,by rw [h1,s1,← s2];rfl,by simp only [Sl.of_l];have:=h2.1;omega⟩
theorem qlD {α:Type} [Enc α] {R:α→Prop} {Q:List D→Prop} (jd:∀ l,Q l→∃ a:α,l = Enc.cells a∧R a):∀ (ls:List (List D)),(∀ l,l∈ls→Q l)→∃ s:List α,ls.flatten = qu s∧s.length = ls.length∧∀ a,a∈s→R a
 | [],_=>⟨[],rfl,rfl,by simp⟩
 | l :: ls,h=>by
  obtain ⟨x,hx,hr⟩:=jd l (h l (VW ..));obtain ⟨s,h1,h2,h3⟩:=qlD jd ls fun l' hl=>h l' (Jr _ hl);refine ⟨x :: s,by rw [qeG,hx,h1,Yb],by simp [h2],fun a ha=>?_⟩;rcases List.mem_cons.1 ha with rfl | ha
  ·exact hr
  ·exact h3 a ha
theorem qre {α:Type} [Enc α] {R:α→Prop} (hu:P.underlying t = some (.slice e)) (jd:∀ l,vR P n e l→∃ a:α,l = Enc.cells a∧R a) (h:vR P (n+1) t cs):∃ s:Sl α,cs = [(.vsl s.nil (qu s.l) s.l.length)]∧s.l.length≤maxLen∧∀ a,a∈s.l→R a:=by
 unfold vR at h;rw [hu] at h;rcases h with rfl | ⟨ls,h1,h2,h3⟩
 ·exact ⟨.none,rfl,by simp,by simp⟩
 ·obtain ⟨s,s1,s2,s3⟩:=qlD jd ls fun l hl=>(h3 l hl).2;exact ⟨.of s,by rw [h1,s1,← s2];rfl,by simp only [Sl.of_l];have:=h2.1;omega,s3⟩
theorem q0c {fs:Array Field} (hu:P.underlying t = some (.struct fs)) (h:vR P (n+1) t cs):qfT P (vR P n) fs.toList cs:=by
 unfold vR at h;rw [hu] at h;exact h
end
theorem qkb {W:World} {d:D} {v:Value} (h:Yi W [d] v.cells.toList) (ho:v.oneCell' = true):Rep (· < W.heap.size) W jh [] d v:=by
 have hv:v.cells.toList = [v]:=by
  cases v <;> first | rfl | simp [Value.oneCell'] at ho
 rw [hv] at h;exact h.2.2 0 d rfl
theorem q12 {W:World} {ds:List D} {vs:Array Value} (h:Yi W ds vs.toList):Rep (· < W.heap.size) W jh [] (.agg ds) (.agg vs):=by
 refine .agg (by simpa using h.1.symm) h.2.1 fun j d hj=>?_;have:=h.2.2 j d hj;simpa [j8,jl] using this
end Go.Ev
namespace Go.Ev
open Go Go.Proofs
theorem qmA {P:Program} {W:World} {base:Nat} {t e:TypeId} {v:Value} (hu:P.underlying t = some (.slice e)) (h:Value.okWide P W .any base t v):v.oneCell' = true:=by
 simp only [Value.okWide,hu,Cell.okWide] at h;cases v <;> first | rfl | simp [Cell.ok,hu] at h
theorem qwE {P:Program} {W:World} {base:Nat} {t:TypeId} {v:Value} (hu:P.underlying t = some .string) (h:Value.okWide P W .any base t v):v.oneCell' = true:=by
 simp only [Value.okWide,hu,Cell.okWide] at h;cases v <;> first | rfl | simp [Cell.ok,hu] at h
theorem q3o {P:Program} {W:World} {base:Nat} {t:TypeId} {fs:Array Field} {v:Value} (hu:P.underlying t = some (.struct fs)) (h:Value.okWide P W .any base t v):∃ vs,v = .agg vs:=by
 simp only [Value.okWide,hu] at h;obtain ⟨cs,h,_⟩:=h;exact ⟨cs,h⟩
section
variable {H:Type} {enc:TypeId × Value→H} {P:Program} {W:World} {base n:Nat} {t e:TypeId} {v:Value} {d:DataW H} {ps:List MemPlace}
theorem q2Q (hu:P.underlying t = some (.slice e)) (he:P.underlying e = some (.int .u8)) (hp:YY P (n+2) t = true) (hv:Value.okWide P W .any base t v) (h:DataW.Trod enc P W 0 (fun _=>true) true t v d ps∧Wok P t d) :
  ∃ s:Sl UInt8,Rep (· < W.heap.size) W jh [] (.vsl s.nil (qd s.l) s.l.length) v∧s.l.length≤maxLen:=by
 obtain ⟨ds,h1,h2⟩:=qgs hp h;obtain ⟨s,rfl,hl⟩:=q0e hu he h1;exact ⟨s,qkb h2 (qmA hu hv),hl⟩
theorem qsM {α:Type} [Enc α] {R:α→Prop} (hu:P.underlying t = some (.slice e)) (jd:∀ l,vR P n e l→∃ a:α,l = Enc.cells a∧R a) (hp:YY P (n+1) t = true) (hv:Value.okWide P W .any base t v) (h:DataW.Trod enc P W 0 (fun _=>true) true t v d ps∧Wok P t d) :
  ∃ s:Sl α,Rep (· < W.heap.size) W jh [] (.vsl s.nil (qu s.l) s.l.length) v∧s.l.length≤maxLen∧∀ a,a∈s.l→R a:=by
 obtain ⟨ds,h1,h2⟩:=qgs hp h;obtain ⟨s,rfl,hl,hr⟩:=qre hu jd h1;exact ⟨s,qkb h2 (qmA hu hv),hl,hr⟩
theorem q2O {α:Type} [Enc α] {R:α→Prop} {fs:Array Field} (hu:P.underlying t = some (.struct fs)) (jd:∀ l,vR P n t l→∃ a:α,l = Enc.cells a∧R a) (hp:YY P n t = true) (hv:Value.okWide P W .any base t v) (h:DataW.Trod enc P W 0 (fun _=>true) true t v d ps∧Wok P t d) :
  ∃ a:α,Rep (· < W.heap.size) W jh [] (.agg (Enc.cells a)) v∧R a:=by
 obtain ⟨ds,h1,h2⟩:=qgs hp h;obtain ⟨a,rfl,hr⟩:=jd ds h1;obtain ⟨vs,rfl⟩:=q3o hu hv;exact ⟨a,q12 h2,hr⟩
theorem q2P (hu:P.underlying t = some .string) (hp:YY P (n+1) t = true) (hv:Value.okWide P W .any base t v) (h:DataW.Trod enc P W 0 (fun _=>true) true t v d ps∧Wok P t d):∃ s,Rep (· < W.heap.size) W jh [] (.str s) v∧s.length≤maxLen:=by
 obtain ⟨ds,h1,h2⟩:=qgs hp h;obtain ⟨b,rfl,hb⟩:=qrd hu h1;exact ⟨b,qkb h2 (qwE hu hv),hb⟩
end
theorem qvI {ok:Nat→Prop} {w:World} {ι:qV} {H:qe}:RepL ok w ι H [] []:=⟨rfl,by simp⟩
theorem qff {ok:Nat→Prop} {w:World} {ι:qV} {H:qe} {d:D} {v:Value} {ds:List D} {vs:List Value} (h:Rep ok w ι H d v) (hs:RepL ok w ι H ds vs):RepL ok w ι H (d :: ds) (v :: vs):=by
 refine ⟨by simp [hs.1],fun j x hj=>?_⟩;cases j with
 | zero=>simp at hj;subst hj;exact h
 | succ j=>exact hs.2 j x (by simpa using hj)
end Go.Ev
namespace Go.Ev
open Go Go.Proofs
@[simp] theorem ID.ta (i:ID) (r:List D):(qd i.l ++ r).take 16 = qd i.l:=by simp
@[simp] theorem ID.da (i:ID) (r:List D):(qd i.l ++ r).drop 16 = r:=by simp
def vU (k:Nat):UInt8:=if k < 10 then UInt8.ofNat (48+k) else UInt8.ofNat (87+k)
def JS:Nat→Nat→List UInt8
 | 0,_=>[]
 | f+1,v=>if v < 16 then [vU v] else JS f (v / 16) ++ [vU (v % 16)]
def hx (v:Nat):List UInt8:=JS 16 v
def digL:List UInt8:=[48,49,50,51,52,53,54,55,56,57,97,98,99,100,101,102]
def qjX:List UInt8:=[48,49,50,51,52,53,54,55,56,57,97,98,99,100,101,102,103,104,105,106,107,108,109,110,111,112,113,114,115,116,117,118,119,120,121,122]
theorem qsh:∀ k,k < 16→qjX[k]? = some (vU k):=by decide
theorem qsg:∀ k,k < 16→digL[k]? = some (vU k):=by decide
theorem qjW:∀ k,k < 16→ve (vU k) digL 0 = (k:Int):=by decide
theorem qqS:∀ (f v:Nat),(JS f v).length≤f
 | 0,_=>qE _
 | f+1,v=>by
  rw [JS];split
  ·simp
  ·have:=qqS f (v / 16);simp;omega
theorem qqJ (v:Nat):(hx v).length≤16:=qqS 16 v
theorem qgY:∀ k,k < 16→vU k≠59∧vU k≠61∧vU k≠45:=by decide
theorem qqR:∀ (f v:Nat),∀ x∈JS f v,x≠59∧x≠61∧x≠45
 | 0,_=>by simp [JS]
 | f+1,v=>by
  rw [JS];split
  ·intro x hx;rw [List.mem_singleton.1 hx];exact qgY v (by assumption)
  ·intro x hx;rcases List.mem_append.1 hx with h | h
   ·exact qqR f _ x h
   ·rw [List.mem_singleton.1 h];exact qgY _ (Yh _ (by decide))
theorem qz8 (v:Nat):∀ x∈hx v,x≠59∧x≠61∧x≠45:=qqR 16 v
def ju:List UInt8→List UInt8
 | []=>[]
 | b :: l=>vU (b.toNat / 16) :: vU (b.toNat % 16) :: ju l
theorem qcL:∀ (l:List UInt8),(ju l).length = 2 * l.length
 | []=>rfl
 | b :: l=>by simp [ju,qcL l];omega
theorem qqQ:∀ (a b:List UInt8),ju (a ++ b) = ju a ++ ju b
 | [],_=>rfl
 | x :: a,b=>by simp [ju,qqQ a b]
theorem qqP:∀ (l:List UInt8),∀ x∈ju l,x≠59∧x≠61∧x≠45
 | []=>by simp [ju]
 | b :: l=>by
  intro x hx;simp only [ju,jT] at hx;have hb:=b.toNat_lt;rcases hx with rfl | rfl | hx
  ·exact qgY _ (by omega)
  ·exact qgY _ (by omega)
  ·exact qqP l x hx
def kc (v:Nat):List UInt8:=List.replicate (16 - (hx v).length) 48 ++ hx v
theorem qbN (v:Nat):(kc v).length = 16:=by
 have:=qqJ v;simp [kc];omega
def QI:List UInt8→Nat→List UInt8→Option (List UInt8)
 | [],_,st=>some st
 | c :: l,i,st=>if ve c digL 0 < 0 then none else QI l (i+1) (st.set (i / 2) ((st.getD (i / 2) 0 <<< 4) ||| UInt8.ofNat (ve c digL 0).toNat))
def zero16:List UInt8:=List.replicate 16 0
def QH (s:List UInt8):Option (List UInt8):=if s.length = 32 then QI s 0 zero16 else none
theorem qqE:∀ (s:List UInt8) (i:Nat) (st r:List UInt8),QI s i st = some r→r.length = st.length
 | [],_,st,r,h=>by simp only [QI,qw] at h;rw [h]
 | c :: l,i,st,r,h=>by
  simp only [QI] at h;split at h
  ·cases h
  ·have:=qqE l _ _ r h;simpa using this
theorem qz2 {s r:List UInt8} (h:QH s = some r):r.length = 16:=by
 unfold QH at h;split at h
 ·have:=qqE _ _ _ _ h;simpa [zero16] using this
 ·cases h
theorem qq1 (c:UInt8):∀ (l:List UInt8) (n:Nat),ve c l n = -1∨∃ k,k < l.length∧ve c l n = ((n+k:Nat):Int)
 | [],_=>.inl rfl
 | b :: l,n=>by
  unfold ve;split
  ·exact .inr ⟨0,by simp,by simp⟩
  ·rcases qq1 c l (n+1) with h | ⟨k,h1,h2⟩
   ·exact .inl h
   ·exact .inr ⟨k+1,by simp;omega,by rw [h2];omega⟩
theorem qwZ:∀ n,n < 256→(((0:UInt8) <<< 4 ||| UInt8.ofNat (n / 16)) <<< 4) ||| UInt8.ofNat (n % 16) = UInt8.ofNat n:=by decide +kernel
theorem qxa (b:UInt8):(((0:UInt8) <<< 4 ||| UInt8.ofNat (b.toNat / 16)) <<< 4) ||| UInt8.ofNat (b.toNat % 16) = b:=by
 rw [qwZ b.toNat b.toNat_lt,UInt8.ofNat_toNat]
theorem qqF:∀ (l done:List UInt8),QI (ju l) (2 * done.length) (done ++ List.replicate l.length 0) = some (done ++ l)
 | [],done=>by simp [ju,QI]
 | b :: l,done=>by
  have hb:=b.toNat_lt;have h1:=qjW (b.toNat / 16) (by omega);have h2:=qjW (b.toNat % 16) (by omega);simp only [ju,QI,h1,h2];rw [if_neg (by omega),if_neg (by omega)];have e1:2 * done.length / 2 = done.length:=by omega
  have e2:(2 * done.length+1) / 2 = done.length:=by omega
  have e3:2 * done.length+1+1 = 2 * (done ++ [b]).length:=by simp;omega
  have g1:(done ++ List.replicate (b :: l).length 0).getD done.length 0 = (0:UInt8):=by
   simp [List.getD,KM]
  rw [e1,e2,e3,g1]
  have s1:∀ x:UInt8,(done ++ List.replicate (b :: l).length (0:UInt8)).set done.length x = done ++ x :: List.replicate l.length 0:=by
   intro x;simp [KM]
  rw [s1]
  have g2:∀ x:UInt8,(done ++ x :: List.replicate l.length (0:UInt8)).getD done.length 0 = x:=by
   intro x;simp [List.getD]
  rw [g2]
  have s2:∀ x y:UInt8,(done ++ x :: List.replicate l.length (0:UInt8)).set done.length y = (done ++ [y]) ++ List.replicate l.length 0:=by
   intro x y;simp
  have e4:((((b.toNat / 16:Nat):Int)).toNat) = b.toNat / 16:=by omega
  have e5:((((b.toNat % 16:Nat):Int)).toNat) = b.toNat % 16:=by omega
  rw [s2,e4,e5,qxa b,qqF l (done ++ [b])];simp
theorem qqB {l:List UInt8} (h:l.length = 16):QH (ju l) = some l:=by
 unfold QH;rw [if_pos (by rw [qcL,h])];have:=qqF l [];simpa [zero16,h] using this
theorem quy:∀ n:Nat,n < 256→∀ k:Nat,k < 16→JK .u8 (IntKind.u8.wrap ((n:Int) * 16)) (k:Int) = ((UInt8.ofNat n <<< 4 ||| UInt8.ofNat k).toNat:Int):=by decide +kernel
theorem qux (a:UInt8) (k:Nat) (hk:k < 16):JK .u8 (IntKind.u8.wrap ((a.toNat:Int) * 16)) (k:Int) = ((a <<< 4 ||| UInt8.ofNat k).toNat:Int):=by
 rw [quy a.toNat a.toNat_lt k hk,UInt8.ofNat_toNat]
theorem q3f {n:Nat} (h:n < 18446744073709551616):Yf .u64 (n:Int) 15 = ((n % 16:Nat):Int):=by
 unfold Yf
 have e:(BitVec.ofInt IntKind.u64.bits (n:Int) &&& BitVec.ofInt IntKind.u64.bits 15).toNat = n % 16:=by
  show (BitVec.ofInt 64 (n:Int) &&& BitVec.ofInt 64 ((15:Nat):Int)).toNat = n % 16;rw [qhK,qhK,BitVec.toNat_and,qhJ,qhJ,qeF (show n < 2 ^ 64 by omega)];exact Nat.and_two_pow_sub_one_eq_mod n 4
 rw [e,qca];omega
theorem q3d:∀ n:Nat,n < 256→Yf .u8 (n:Int) 15 = ((n % 16:Nat):Int):=by decide +kernel
theorem q3e (b:UInt8):Yf .u8 (b.toNat:Int) 15 = ((b.toNat % 16:Nat):Int):=q3d b.toNat b.toNat_lt
theorem qr7 (n:Nat):Int.fdiv (n:Int) 16 = ((n / 16:Nat):Int):=by
 rw [Int.fdiv_eq_ediv_of_nonneg _ (by omega)];omega
theorem q0G (i:Nat) (s:List UInt8) (c:UInt8):zM (List.replicate (i+1) (D.int .u8 0) ++ qd s) i [.int .u8 c.toNat] = List.replicate i (.int .u8 0) ++ qd (c :: s):=by
 unfold zM;have h:(List.replicate (i+1) (D.int .u8 0) ++ qd s).drop (i+1) = qd s:=kE (by simp)
 have h2:(List.replicate (i+1) (D.int .u8 0) ++ qd s).take i = List.replicate i (D.int .u8 0):=by
  rw [List.take_append_of_le_length (by simp),List.take_replicate];congr 1;omega
 rw [h2,List.length_singleton,h];simp [qd]
def zp (x:Int) (k:Nat):Int:=JK .u32 (IntKind.u32.wrap (x * 2 ^ k)) (x.fdiv (2 ^ (32 - k)))
def vm (a b:Int):Int:=IntKind.u32.wrap (a+b)
def zY (a b:Int):Int:=IntKind.u32.wrap (a - b)
def Ju (k:Nat):Int × Int × Int→Int × Int × Int
 | (a,b,c)=>(b,vm c b,qH .u32 (zY a c) (zp c k))
def qdD (t:Int × Int × Int):Int × Int × Int:=Ju 4 (Ju 19 (Ju 16 (Ju 8 (Ju 6 (Ju 4 t)))))
def Zj (k:Nat):Int × Int × Int→Int × Int × Int
 | (p,q,r)=>(r,zY (qH .u32 p q) (zp q k),q)
def qdM:Int × Int × Int→Int × Int × Int
 | (x,y,z)=>Zj 24 (Zj 14 (Zj 4 (Zj 16 (Zj 25 (Zj 11 (Zj 14 (z,y,x)))))))
theorem qmZ {x y z x1 z1 y1 x2 z2 y2 x3 z3 y3 x4 z4 y4 a1 a2 a3 a4 a5 a6:Int}
  (h1:zY x z = a1) (h2:qH .u32 a1 (zp z 4) = x1) (h3:vm z y = z1)
  (h4:zY y x1 = a2) (h5:qH .u32 a2 (zp x1 6) = y1) (h6:vm x1 z1 = x2)
  (h7:zY z1 y1 = a3) (h8:qH .u32 a3 (zp y1 8) = z2) (h9:vm y1 x2 = y2)
  (g1:zY x2 z2 = a4) (g2:qH .u32 a4 (zp z2 16) = x3) (g3:vm z2 y2 = z3)
  (g4:zY y2 x3 = a5) (g5:qH .u32 a5 (zp x3 19) = y3) (g6:vm x3 z3 = x4)
  (g7:zY z3 y3 = a6) (g8:qH .u32 a6 (zp y3 4) = z4) (g9:vm y3 x4 = y4):qdD (x,y,z) = (x4,y4,z4):=by
 unfold qdD;have e1:Ju 4 (x,y,z) = (y,z1,x1):=by simp only [Ju,h1,h2,h3]
 have e2:Ju 6 (y,z1,x1) = (z1,x2,y1):=by simp only [Ju,h4,h5,h6]
 have e3:Ju 8 (z1,x2,y1) = (x2,y2,z2):=by simp only [Ju,h7,h8,h9]
 have e4:Ju 16 (x2,y2,z2) = (y2,z3,x3):=by simp only [Ju,g1,g2,g3]
 have e5:Ju 19 (y2,z3,x3) = (z3,x4,y3):=by simp only [Ju,g4,g5,g6]
 have e6:Ju 4 (z3,x4,y3) = (x4,y4,z4):=by simp only [Ju,g7,g8,g9]
 rw [e1,e2,e3,e4,e5,e6]
theorem qr5 {x y z a1 z1 a2 x1 a3 y1 a4 z2 a5 x2 a6 y2 a7 z3:Int}
  (h1:qH .u32 z y = a1) (h2:zY a1 (zp y 14) = z1)
  (h3:qH .u32 x z1 = a2) (h4:zY a2 (zp z1 11) = x1)
  (h5:qH .u32 y x1 = a3) (h6:zY a3 (zp x1 25) = y1)
  (h7:qH .u32 z1 y1 = a4) (h8:zY a4 (zp y1 16) = z2)
  (g1:qH .u32 x1 z2 = a5) (g2:zY a5 (zp z2 4) = x2)
  (g3:qH .u32 y1 x2 = a6) (g4:zY a6 (zp x2 14) = y2)
  (g5:qH .u32 z2 y2 = a7) (g6:zY a7 (zp y2 24) = z3):qdM (x,y,z) = (x2,z3,y2):=by
 unfold qdM;have e1:Zj 14 (z,y,x) = (x,z1,y):=by simp only [Zj,h1,h2]
 have e2:Zj 11 (x,z1,y) = (y,x1,z1):=by simp only [Zj,h3,h4]
 have e3:Zj 25 (y,x1,z1) = (z1,y1,x1):=by simp only [Zj,h5,h6]
 have e4:Zj 16 (z1,y1,x1) = (x1,z2,y1):=by simp only [Zj,h7,h8]
 have e5:Zj 4 (x1,z2,y1) = (y1,x2,z2):=by simp only [Zj,g1,g2]
 have e6:Zj 14 (y1,x2,z2) = (z2,y2,x2):=by simp only [Zj,g3,g4]
 have e7:Zj 24 (z2,y2,x2) = (x2,z3,y2):=by simp only [Zj,g5,g6]
 simp only [e1,e2,e3,e4,e5,e6,e7]
def vg (l:List UInt8) (a:Nat):Nat:=leN ((l.drop a).take 4)
theorem qdz (l:List UInt8) (a:Nat):vg l a < 4294967296:=by
 refine jZ (qbu _) ?_;have:((l.drop a).take 4).length≤4:=by rw [jU];omega
 exact zT (YZ (by decide) this) (by decide)
def JF (l:List UInt8):Int × Int × Int→Int × Int × Int
 | (x,y,z)=>(vm x (vg l 0:Nat),vm y (vg l 4:Nat),vm z (vg l 8:Nat))
def qbn:Int × Int × Int→Int
 | (_,y,z)=>JK .u64 (IntKind.u64.wrap (IntKind.u64.wrap z * 4294967296)) (IntKind.u64.wrap y)
def Kq (l:List UInt8) (t:Int × Int × Int):Int :=
 if 12 < l.length then Kq (l.drop 12) (qdD (JF l t)) else if l.length = 0 then qbn t else match qdM (JF l t) with | (_,z,y)=>qbn (0,y,z)
termination_by l.length
decreasing_by simp;omega
def Y1 (l:List UInt8):Int:=Kq l (vm 3735928559 (IntKind.u32.wrap (l.length:Nat)),vm 3735928559 (IntKind.u32.wrap (l.length:Nat)),vm 3735928559 (IntKind.u32.wrap (l.length:Nat)))
theorem qjm {l:List UInt8} (h:12 < l.length) (t:Int × Int × Int):Kq l t = Kq (l.drop 12) (qdD (JF l t)):=by
 rw [Kq,if_pos h]
theorem qjn {l:List UInt8} (h:¬ 12 < l.length) (h0:l.length≠0) {t:Int × Int × Int} {x y z:Int} (hf:qdM (JF l t) = (x,z,y)):Kq l t = qbn (0,y,z):=by
 rw [Kq,if_neg h,if_neg h0,hf]
theorem qjl {l:List UInt8} (h0:l.length = 0) (t:Int × Int × Int):Kq l t = qbn t:=by
 rw [Kq,if_neg (by omega),if_pos h0]
theorem q2Z:∀ k:Nat,k < 32→Yf .u64 (k:Int) 31 = (k:Int):=by decide
end Go.Ev
namespace Go.Ev.S
open Go Go.Proofs Go.Ev
theorem qgL:∀ (l:List UInt8) (k:Nat),leN (l ++ List.replicate k 0) = leN l
 | [],0=>rfl
 | [],k+1=>by
  have h:=qgL [] k;simp only [Qu] at h ⊢;rw [KM,leN.eq_2];rw [h];rfl
 | c :: l,k=>by rw [Qw,leN,leN,qgL l k]
theorem qtr (l:List UInt8) (k a:Nat):vg (l ++ List.replicate k 0) a = vg l a:=by
 unfold vg;rw [vX,ZK,List.drop_replicate,List.take_replicate,qgL]
theorem q3q (l:List UInt8) (k:Nat) (t:Int × Int × Int):JF (l ++ List.replicate k 0) t = JF l t:=by
 obtain ⟨x,y,z⟩:=t;simp only [JF,qtr]
theorem KT [MaxL] [TxtC] {x r:Int} {k:Nat} (hk:k < 32) (e:zp x k = r) {kk:Int} (KA:kk = k):call cx 192 [.int .u32 x,.int .u64 kk] [] = some (.int .u32 r,[]):=by
 rw [KA,← e];have qZ:=qN (32 - (k:Int)) ((32 - k:Nat):Int);have m1:min k 32 = k:=by omega
 have hn:¬ (k:Int) < 0:=by omega
 refine qy Tryz.func192 rfl ⟨rfl,rfl⟩ ?_;unfold zp;obtain ⟨j,hj⟩:∃ j,j = 32 - k:=⟨_,rfl⟩;rw [← hj] at qZ ⊢;have m2:min j 32 = j:=by omega
 have zX:¬ (j:Int) < 0:=by omega
 simp [Tryz.f192,qZ,IntKind.bits,m1,m2,hn,zX]
theorem bits32:2 ^ IntKind.u32.bits = 4294967296:=by simp only [IntKind.bits]
theorem qtq (x y:Nat) (hy:y < 256) (hx:x * 256+y < 4294967296):JK .u32 ((x:Int) * 256) (y:Int) = ((x * 256+y:Nat):Int):=by
 have e3:x * 256 < 2 ^ IntKind.u32.bits:=Nat.lt_of_lt_of_eq (Nat.lt_of_le_of_lt (Nat.le_add_right _ _) hx) bits32.symm;have e4:y < 2 ^ IntKind.u32.bits:=Nat.lt_of_lt_of_eq (jZ hy (by decide)) bits32.symm;have e1:(x:Int) * 256 = ((x * 256:Nat):Int):=by omega
 rw [e1,qg0 rfl e3 e4,qm5 x y hy]
set_option maxHeartbeats 1000000 in
theorem qcb [MaxL] [TxtC] (nl:Bool) (l:List UInt8) (zF:nl = true→l = []) (a:Nat) (ha:a < 5611686018427387904) (_:l.length < 4611686018427387904) {at_:Int} (qI:at_ = a):call cx 191 [.vsl nl (qd l) l.length,.int .i64 at_] [] = some (.int .u32 (vg l a:Nat),[]):=by
 subst qI;refine qy Tryz.func191 rfl ⟨rfl,rfl⟩ ?_;simp [Tryz.f191];refine Run.loopThen (fun (k:Nat) e H=>k≤4∧H = []∧qi e 0 = some (.vsl nl (qd l) l.length)∧qi e 1 = some (.int .i64 a)∧qi e 5 = some (.int .u32 (leN ((l.drop (a+k)).take (4 - k)):Nat))∧qi e 6 = some (.int .i64 ((k:Int) - 1))) (fun k=>k) 4 (by simp [leN]) ?_;rintro k e H ⟨hk,rfl,h0,h1,h5,h6⟩;cases k with
 | zero =>
  simp [h0,h1,h5,h6];rfl
 | succ j =>
  have hj:(0:Int)≤(j:Int):=by omega
  have e1:((j+1:Nat):Int) - 1 = (j:Int):=by omega
  rw [e1] at h6;have hwk:=qx ((j:Int) - 1) ((j:Int) - 1);have hwj:=qx ((a:Int)+(j:Int)) ((a+j:Nat):Int);have hp8:(2:Int) ^ min 8 IntKind.u32.bits = 256:=by decide
  have hn8:leN ((l.drop (a+(j+1))).take (4 - (j+1))) < 256 ^ 3:=by
   refine jZ (qbu _) (YZ (by decide) ?_);rw [jU];omega
  obtain ⟨v,hv⟩:=ql (leN ((l.drop (a+(j+1))).take (4 - (j+1))));rw [hv] at h5 hn8;have hwv:=Yj ((v:Int) * 256) ((v:Int) * 256);by_cases qg:a+j < l.length
  ·have qo:((a+j:Nat):Int) < (l.length:Int):=by omega
   have zx:nl = false:=by
    cases hq:nl with
    | false=>rfl
    | true=>rw [zF hq] at qg;simp at qg
   have hd:(l.drop (a+j)).take (4 - j) = l[a+j] :: (l.drop (a+(j+1))).take (4 - (j+1)):=by
    rw [zU qg,show 4 - j = (4 - (j+1))+1 by omega,qhC,qhB]
   have hb:=l[a+j].toNat_lt;have hst:=qtq v l[a+j].toNat hb (by omega);have hwu:=Yj (l[a+j].toNat:Int) (l[a+j].toNat:Int);have g1:(0:Int)≤(a:Int)+(j:Int):=(by omega);have g2:(a:Int)+(j:Int) < (l.length:Int):=(by omega);have g3:((a:Int)+(j:Int)).toNat = a+j:=(by omega);have qI:=vq qg;simp [h0,h1,h5,h6,hj,hwj,hwk,hwu,zx,g1,g2,g3,qI,hp8,hwv,hst];exact ⟨j,by omega,by omega,by rw [hd,leN,hv];omega,rfl⟩
  ·have qo:¬ ((a+j:Nat):Int) < (l.length:Int):=(by omega);have g2:¬ (a:Int)+(j:Int) < (l.length:Int):=by omega
   have hv0:v = 0:=by
    rw [← hv,Js (by omega)];simp [leN]
   subst hv0;simp [h0,h1,h5,h6,hj,hwj,hwk,g2,hp8];exact ⟨j,by omega,by omega,by rw [Js (by omega)];simp [leN],rfl⟩
theorem qk9 (l:List UInt8) (a k:Nat):vg (l.drop a) k = vg l (a+k):=by
 unfold vg;rw [jV]
set_option maxHeartbeats 4000000 in
set_option maxRecDepth 4000 in
theorem qgn [MaxL] [TxtC] (s:Sl UInt8) (hs:s.l.length < 4611686018427387904):call cx 135 [(.vsl s.nil (qd s.l) s.l.length)] [] = some (.int .u64 (Y1 s.l),[]):=by
 refine qy Tryz.func135 rfl ⟨rfl,rfl⟩ ?_;have hN:Y1 s.l = Kq s.l (vm 3735928559 (IntKind.u32.wrap (s.l.length:Nat)),vm 3735928559 (IntKind.u32.wrap (s.l.length:Nat)),vm 3735928559 (IntKind.u32.wrap (s.l.length:Nat))):=rfl;obtain ⟨n,hn⟩:=ql (IntKind.u32.wrap (3735928559+IntKind.u32.wrap (s.l.length:Nat)));have zX:vm 3735928559 (IntKind.u32.wrap (s.l.length:Nat)) = n:=hn;rw [zX] at hN;clear zX;have hp64:(2:Int) ^ min 32 IntKind.u64.bits = 4294967296:=by decide
 generalize Y1 s.l = res at *;by_cases h0:s.l.length = 0
 ·have qM:(s.l.length:Int) = 0:=by omega
  rw [qjl h0] at hN;subst hN;rw [h0] at hn;replace hn:IntKind.u32.wrap (3735928559+IntKind.u32.wrap (0:Int)) = n:=hn;have Qr:n = 3735928559:=by rw [← hn];decide
  subst Qr;simp [Tryz.f135,h0,qbn,hp64]
 have qM:¬ (s.l.length:Int) = 0:=by omega
 simp [Tryz.f135,hn,h0];refine Run.loopThen (fun (q:Nat × Int × Int × Int) e H'=>q.1 < s.l.length∧Kq (s.l.drop q.1) q.2 = res∧qi e 0 = some (.vsl s.nil (qd s.l) s.l.length)∧qi e 3 = some (.int .u32 q.2.1)∧qi e 4 = some (.int .u32 q.2.2.1)∧qi e 5 = some (.int .u32 q.2.2.2)∧qi e 6 = some (.int .i64 q.1)∧H' = []) (fun q=>s.l.length - q.1) (0,n,n,n) ?_ ?_
 ·simp [hN];omega
 rintro ⟨at_,x,y,z⟩ e H' ⟨qI,hR,k0,k3,k4,k5,k6,rfl⟩;simp only at qI hR k3 k4 k5 k6;have hsub:=qx ((s.l.length:Int) - (at_:Int)) ((s.l.length - at_:Nat):Int);have jp:(s.l.drop at_).length = s.l.length - at_:=vQ
 by_cases vG:12 < s.l.length - at_
 ·have h12':(12:Int) < ((s.l.length - at_:Nat):Int):=by omega
  rw [qjm (by omega),jV] at hR;have w0:=qcb s.nil s.l s.h (at_+0) (by omega) hs (at_:=(at_:Int)) (by omega);obtain ⟨x0,p0⟩:=ql (vm x (vg s.l (at_+0):Nat));have w4:=qcb s.nil s.l s.h (at_+4) (by omega) hs (at_:=(at_:Int)+4) (by omega);obtain ⟨y0,p4⟩:=ql (vm y (vg s.l (at_+4):Nat));have w8:=qcb s.nil s.l s.h (at_+8) (by omega) hs (at_:=(at_:Int)+8) (by omega);obtain ⟨z0,p8⟩:=ql (vm z (vg s.l (at_+8):Nat));have ha:JF (s.l.drop at_) (x,y,z) = (x0,y0,z0):=by simp only [JF,qk9,p0,p4,p8]
  have c0:IntKind.u32.wrap (x+(vg s.l (at_+0):Nat)) = x0:=p0;generalize vg s.l (at_+0) = u0 at *;have c4:IntKind.u32.wrap (y+(vg s.l (at_+4):Nat)) = y0:=p4;generalize vg s.l (at_+4) = u4 at *;have c8:IntKind.u32.wrap (z+(vg s.l (at_+8):Nat)) = z0:=p8;generalize vg s.l (at_+8) = u8 at *;clear p0 p4 p8;have i4:=qx ((at_:Int)+4) ((at_:Int)+4);have i8:=qx ((at_:Int)+8) ((at_:Int)+8);rw [ha] at hR;obtain ⟨a1,h1⟩:=ql (zY x0 z0);have e0:IntKind.u32.wrap (x0 - z0) = a1:=h1;obtain ⟨r0,q0⟩:=ql (zp z0 4);have e1:=KT (by omega) q0 (kk:=4) rfl;obtain ⟨x1,f0⟩:=ql (qH .u32 a1 r0);have h2:qH .u32 a1 (zp z0 4) = x1:=by rw [q0];exact f0
  obtain ⟨z1,h3⟩:=ql (vm z0 y0);have e2:IntKind.u32.wrap (z0+y0) = z1:=h3;obtain ⟨a2,h4⟩:=ql (zY y0 x1);have e3:IntKind.u32.wrap (y0 - x1) = a2:=h4;obtain ⟨r1,q1⟩:=ql (zp x1 6);have e4:=KT (by omega) q1 (kk:=6) rfl;obtain ⟨y1,f1⟩:=ql (qH .u32 a2 r1);have h5:qH .u32 a2 (zp x1 6) = y1:=by rw [q1];exact f1
  obtain ⟨x2,h6⟩:=ql (vm x1 z1);have e5:IntKind.u32.wrap (x1+z1) = x2:=h6;obtain ⟨a3,h7⟩:=ql (zY z1 y1);have e6:IntKind.u32.wrap (z1 - y1) = a3:=h7;obtain ⟨r2,q2⟩:=ql (zp y1 8);have e7:=KT (by omega) q2 (kk:=8) rfl;obtain ⟨z2,f2⟩:=ql (qH .u32 a3 r2);have h8:qH .u32 a3 (zp y1 8) = z2:=by rw [q2];exact f2
  obtain ⟨y2,h9⟩:=ql (vm y1 x2);have e8:IntKind.u32.wrap (y1+x2) = y2:=h9;obtain ⟨a4,g1⟩:=ql (zY x2 z2);have e9:IntKind.u32.wrap (x2 - z2) = a4:=g1;obtain ⟨r3,q3⟩:=ql (zp z2 16);have e10:=KT (by omega) q3 (kk:=16) rfl;obtain ⟨x3,f3⟩:=ql (qH .u32 a4 r3);have g2:qH .u32 a4 (zp z2 16) = x3:=by rw [q3];exact f3
  obtain ⟨z3,g3⟩:=ql (vm z2 y2);have e11:IntKind.u32.wrap (z2+y2) = z3:=g3;obtain ⟨a5,g4⟩:=ql (zY y2 x3);have e12:IntKind.u32.wrap (y2 - x3) = a5:=g4;obtain ⟨r4,q4⟩:=ql (zp x3 19);have e13:=KT (by omega) q4 (kk:=19) rfl;obtain ⟨y3,f4⟩:=ql (qH .u32 a5 r4);have g5:qH .u32 a5 (zp x3 19) = y3:=by rw [q4];exact f4
  obtain ⟨x4,g6⟩:=ql (vm x3 z3);have e14:IntKind.u32.wrap (x3+z3) = x4:=g6;obtain ⟨a6,g7⟩:=ql (zY z3 y3);have e15:IntKind.u32.wrap (z3 - y3) = a6:=g7;obtain ⟨r5,q5⟩:=ql (zp y3 4);have e16:=KT (by omega) q5 (kk:=4) rfl;obtain ⟨z4,f5⟩:=ql (qH .u32 a6 r5);have g8:qH .u32 a6 (zp y3 4) = z4:=by rw [q5];exact f5
  obtain ⟨y4,g9⟩:=ql (vm y3 x4);have e17:IntKind.u32.wrap (y3+x4) = y4:=g9;have hm:=qmZ h1 h2 h3 h4 h5 h6 h7 h8 h9 g1 g2 g3 g4 g5 g6 g7 g8 g9;rw [hm] at hR;clear g9 g8 g7 g6 g5 g4 g3 g2 g1 h9 h8 h7 h6 h5 h4 h3 h2 h1 hm q0 q1 q2 q3 q4 q5;have i12:=qx ((at_:Int)+12) ((at_+12:Nat):Int);clear ha hN;generalize hjj:s.l.length - at_ = j at *
  simp [k0,k3,k4,k5,k6,hsub,h12',i12,w0,w4,w8,c0,c4,c8,i4,i8,e0,e1,f0,e2,e3,e4,f1,e5,e6,e7,f2,e8,e9,e10,f3,e11,e12,e13,f4,e14,e15,e16,f5,e17];exact ⟨at_+12,by omega,by omega,_,_,_,hR,by omega,rfl,rfl,by omega⟩
 ·have h12':¬ (12:Int) < ((s.l.length - at_:Nat):Int):=by omega
  have w0:=qcb s.nil s.l s.h (at_+0) (by omega) hs (at_:=(at_:Int)) (by omega);obtain ⟨x0,p0⟩:=ql (vm x (vg s.l (at_+0):Nat));have w4:=qcb s.nil s.l s.h (at_+4) (by omega) hs (at_:=(at_:Int)+4) (by omega);obtain ⟨y0,p4⟩:=ql (vm y (vg s.l (at_+4):Nat));have w8:=qcb s.nil s.l s.h (at_+8) (by omega) hs (at_:=(at_:Int)+8) (by omega);obtain ⟨z0,p8⟩:=ql (vm z (vg s.l (at_+8):Nat));have ha:JF (s.l.drop at_) (x,y,z) = (x0,y0,z0):=by simp only [JF,qk9,p0,p4,p8]
  have c0:IntKind.u32.wrap (x+(vg s.l (at_+0):Nat)) = x0:=p0;generalize vg s.l (at_+0) = u0 at *;have c4:IntKind.u32.wrap (y+(vg s.l (at_+4):Nat)) = y0:=p4;generalize vg s.l (at_+4) = u4 at *;have c8:IntKind.u32.wrap (z+(vg s.l (at_+8):Nat)) = z0:=p8;generalize vg s.l (at_+8) = u8 at *;clear p0 p4 p8;have i4:=qx ((at_:Int)+4) ((at_:Int)+4);have i8:=qx ((at_:Int)+8) ((at_:Int)+8);obtain ⟨a1,h1⟩:=ql (qH .u32 z0 y0);obtain ⟨r0,q0⟩:=ql (zp y0 14);have e1:=KT (by omega) q0 (kk:=14) rfl;obtain ⟨z1,f0⟩:=ql (zY a1 r0);have d0:IntKind.u32.wrap (a1 - r0) = z1:=f0;have h2:zY a1 (zp y0 14) = z1:=by rw [q0];exact f0
  obtain ⟨a2,h3⟩:=ql (qH .u32 x0 z1);obtain ⟨r1,q1⟩:=ql (zp z1 11);have e3:=KT (by omega) q1 (kk:=11) rfl;obtain ⟨x1,f1⟩:=ql (zY a2 r1);have d1:IntKind.u32.wrap (a2 - r1) = x1:=f1;have h4:zY a2 (zp z1 11) = x1:=by rw [q1];exact f1
  obtain ⟨a3,h5⟩:=ql (qH .u32 y0 x1);obtain ⟨r2,q2⟩:=ql (zp x1 25);have e5:=KT (by omega) q2 (kk:=25) rfl;obtain ⟨y1,f2⟩:=ql (zY a3 r2);have d2:IntKind.u32.wrap (a3 - r2) = y1:=f2;have h6:zY a3 (zp x1 25) = y1:=by rw [q2];exact f2
  obtain ⟨a4,h7⟩:=ql (qH .u32 z1 y1);obtain ⟨r3,q3⟩:=ql (zp y1 16);have e7:=KT (by omega) q3 (kk:=16) rfl;obtain ⟨z2,f3⟩:=ql (zY a4 r3);have d3:IntKind.u32.wrap (a4 - r3) = z2:=f3;have h8:zY a4 (zp y1 16) = z2:=by rw [q3];exact f3
  obtain ⟨a5,g1⟩:=ql (qH .u32 x1 z2);obtain ⟨r4,q4⟩:=ql (zp z2 4);have e9:=KT (by omega) q4 (kk:=4) rfl;obtain ⟨x2,f4⟩:=ql (zY a5 r4);have d4:IntKind.u32.wrap (a5 - r4) = x2:=f4;have g2:zY a5 (zp z2 4) = x2:=by rw [q4];exact f4
  obtain ⟨a6,g3⟩:=ql (qH .u32 y1 x2);obtain ⟨r5,q5⟩:=ql (zp x2 14);have e11:=KT (by omega) q5 (kk:=14) rfl;obtain ⟨y2,f5⟩:=ql (zY a6 r5);have d5:IntKind.u32.wrap (a6 - r5) = y2:=f5;have g4:zY a6 (zp x2 14) = y2:=by rw [q5];exact f5
  obtain ⟨a7,g5⟩:=ql (qH .u32 z2 y2);obtain ⟨r6,q6⟩:=ql (zp y2 24);have e13:=KT (by omega) q6 (kk:=24) rfl;obtain ⟨z3,f6⟩:=ql (zY a7 r6);have d6:IntKind.u32.wrap (a7 - r6) = z3:=f6;have g6:zY a7 (zp y2 24) = z3:=by rw [q6];exact f6
  have hn:=qr5 h1 h2 h3 h4 h5 h6 h7 h8 g1 g2 g3 g4 g5 g6;clear g6 g4 g2 h8 h6 h4 h2 f0 q0 f1 q1 f2 q2 f3 q3 f4 q4 f5 q5 f6 q6;rw [qjn (by omega) (by omega) (x:=x2) (y:=y2) (z:=z3) (by rw [ha];exact hn)] at hR;subst hR;clear ha hn;generalize hjj:s.l.length - at_ = j at *
  simp [k0,k3,k4,k5,k6,hsub,h12',qbn,hp64,w0,w4,w8,c0,c4,c8,i4,i8,h1,e1,d0,h3,e3,d1,h5,e5,d2,h7,e7,d3,g1,e9,d4,g3,e11,d5,g5,e13,d6]
end Go.Ev.S
namespace Go.Ev
open Go Go.Proofs
abbrev Q4:=Int × Int × Int × Int
def JG (a b:Int):Int:=IntKind.u64.wrap (a+b)
def kF (x:Int) (k:Nat):Int:=JK .u64 (IntKind.u64.wrap (x * 2 ^ k)) (x.fdiv (2 ^ (64 - k)))
def qi4:Q4→Q4
 | (p,q,r,s) =>
  let p1:=JG p q
  let q1:=qH .u64 (kF q 13) p1
  let r1:=JG r s
  let s1:=qH .u64 (kF s 16) r1
  let p3:=JG (kF p1 32) s1
  let r2:=JG r1 q1
  (p3,qH .u64 (kF q1 17) r2,kF r2 32,qH .u64 (kF s1 21) p3)
theorem qlL {p q r s p1 q0 q1 p2 r1 s0 s1 p3 s2 s3 r2 q2 q3 r3:Int} (h1:JG p q = p1) (h2:kF q 13 = q0) (h3:qH .u64 q0 p1 = q1) (h4:kF p1 32 = p2) (h5:JG r s = r1) (h6:kF s 16 = s0) (h7:qH .u64 s0 r1 = s1)
  (h8:JG p2 s1 = p3) (h9:kF s1 21 = s2) (g1:qH .u64 s2 p3 = s3) (g2:JG r1 q1 = r2) (g3:kF q1 17 = q2) (g4:qH .u64 q2 r2 = q3) (g5:kF r2 32 = r3):qi4 (p,q,r,s) = (p3,q3,r3,s3):=by
 simp only [qi4,h1,h2,h3,h4,h5,h6,h7,h8,h9,g1,g2,g3,g4,g5]
def ZQ:Nat→Q4→Q4
 | 0,t=>t
 | n+1,t=>ZQ n (qi4 t)
def V3 (m:Int):Q4→Q4
 | (p,q,r,s)=>match ZQ 2 (p,q,r,qH .u64 s m) with
  | (p,q,r,s)=>(qH .u64 p m,q,r,s)
def qbe:Q4→Int
 | (p,q,r,s)=>match ZQ 4 (p,q,qH .u64 r 255,s) with
  | (p,q,r,s)=>qH .u64 (qH .u64 (qH .u64 p q) r) s
def KU (l:List UInt8) (t:Q4):Q4:=if 8≤l.length then KU (l.drop 8) (V3 (leN (l.take 8):Nat) t) else t
termination_by l.length
decreasing_by simp;omega
theorem qln {l:List UInt8} (h:8≤l.length) (t:Q4):KU l t = KU (l.drop 8) (V3 (leN (l.take 8):Nat) t):=by
 rw [KU,if_pos h]
theorem qiq {l:List UInt8} (h:¬ 8≤l.length) (t:Q4):KU l t = t:=by
 rw [KU,if_neg h]
def qeT (l:List UInt8):Nat:=leN (l.drop (l.length / 8 * 8))+l.length % 256 * 72057594037927936
def qir (k l:Int):Q4:=(qH .u64 k 8317987319222330741,qH .u64 l 7237128888997146477,qH .u64 k 7816392313619706465,qH .u64 l 8387220255154660723)
def qef (key l:List UInt8):Int:=qbe (V3 (qeT l:Nat) (KU l (qir (leN (key.take 8):Nat) (leN ((key.drop 8).take 8):Nat))))
def Xk (keyed:Bool) (key l:List UInt8):Int:=if keyed then qef key l else Y1 l
end Go.Ev
namespace Go.Ev.S
open Go Go.Proofs Go.Ev
theorem qt7 [MaxL] [TxtC] (x:Int) (k:Nat) (hk:k < 64):call cx 232 [.int .u64 x,.int .u64 k] [] = some (.int .u64 (kF x k),[]):=by
 have qZ:=qN (64 - (k:Int)) ((64 - k:Nat):Int);have m1:min k 64 = k:=by omega
 have hn:¬ (k:Int) < 0:=by omega
 refine qy Tryz.func232 rfl ⟨rfl,rfl⟩ ?_;unfold kF;obtain ⟨j,hj⟩:∃ j,j = 64 - k:=⟨_,rfl⟩;rw [← hj] at qZ ⊢;have m2:min j 64 = j:=by omega
 have zX:¬ (j:Int) < 0:=by omega
 simp [Tryz.f232,qZ,IntKind.bits,m1,m2,hn,zX]
theorem qea [MaxL] [TxtC] {x r:Int} {k:Nat} (hk:k < 64) (e:kF x k = r) {kk:Int} (KA:kk = k):call cx 232 [.int .u64 x,.int .u64 kk] [] = some (.int .u64 r,[]):=by
 rw [KA,← e];exact qt7 x k hk
def q4D:Q4→List D
 | (p,q,r,s)=>[.int .u64 p,.int .u64 q,.int .u64 r,.int .u64 s]
set_option maxHeartbeats 1000000 in
theorem qlH [MaxL] [TxtC] (t:Q4) (n:Nat) (hn:n≤100):call cx 190 [.agg (q4D t),.int .i64 n] [] = some (.agg (q4D (ZQ n t)),[]):=by
 obtain ⟨R,hR⟩:=ql (ZQ n t);rw [hR];obtain ⟨p0,q0,r0,s0⟩:=t;refine qy Tryz.func190 rfl ⟨rfl,rfl⟩ ?_;simp [Tryz.f190,q4D];refine Run.loopThen (fun (k:Nat) e H'=>k≤n∧∃ p q r s:Int,ZQ (n - k) (p,q,r,s) = R∧qi e 1 = some (.int .i64 n)∧qi e 9 = some (.int .i64 k)∧qi e 5 = some (.int .u64 p)∧qi e 6 = some (.int .u64 q)∧qi e 7 = some (.int .u64 r)∧qi e 8 = some (.int .u64 s)∧qi e 4 = some (.optr 1 4 0)∧∃ Z,H' = [Z,some (Xx [])]) (fun k=>n - k) 0 ?_ ?_
 ·exact ⟨by omega,p0,q0,r0,s0,by simpa using hR,by simp,by simp,by simp,by simp,by simp,by simp,by simp,_,rfl⟩
 rintro k e H ⟨hk,p,q,r,s,hE,k1,k9,k5,k6,k7,k8,k4,Z,rfl⟩;by_cases qg:k < n
 ·have qo:=zI qg;have hw:=qx ((k:Int)+1) ((k+1:Nat):Int);rw [show n - k = (n - (k+1))+1 by omega,ZQ] at hE;obtain ⟨p1,h1⟩:=ql (JG p q);obtain ⟨q0',h2⟩:=ql (kF q 13);obtain ⟨q1,h3⟩:=ql (qH .u64 q0' p1);obtain ⟨p2,h4⟩:=ql (kF p1 32);obtain ⟨r1,h5⟩:=ql (JG r s);obtain ⟨s0',h6⟩:=ql (kF s 16);obtain ⟨s1,h7⟩:=ql (qH .u64 s0' r1);obtain ⟨p3,h8⟩:=ql (JG p2 s1);obtain ⟨s2,h9⟩:=ql (kF s1 21);obtain ⟨s3,g1⟩:=ql (qH .u64 s2 p3);obtain ⟨r2,g2⟩:=ql (JG r1 q1);obtain ⟨q2,g3⟩:=ql (kF q1 17);obtain ⟨q3,g4⟩:=ql (qH .u64 q2 r2);obtain ⟨r3,g5⟩:=ql (kF r2 32);rw [qlL h1 h2 h3 h4 h5 h6 h7 h8 h9 g1 g2 g3 g4 g5] at hE;have u2:=qea (k:=13) (by decide) h2 (kk:=13) rfl;have u4:=qea (k:=32) (by decide) h4 (kk:=32) rfl;have u6:=qea (k:=16) (by decide) h6 (kk:=16) rfl;have u9:=qea (k:=21) (by decide) h9 (kk:=21) rfl;have v3:=qea (k:=17) (by decide) g3 (kk:=17) rfl;have v5:=qea (k:=32) (by decide) g5 (kk:=32) rfl;unfold JG at h1 h5 h8 g2;simp [k1,k9,k5,k6,k7,k8,k4,qo,hw,h1,u2,h3,u4,h5,u6,h7,h8,u9,g1,g2,v3,g4,v5];exact ⟨k+1,by omega,by omega,p3,q3,r3,s3,hE,by omega,rfl,rfl,rfl,rfl⟩
 ·have qo:=zL qg;rw [show n - k = 0 by omega,ZQ] at hE;subst hE;simp [k1,k9,k5,k6,k7,k8,k4,qo]
theorem qw9 (x y:Nat) (h:y < 4294967296):y ||| (x * 4294967296) = x * 4294967296+y:=by
 have:=Nat.shiftLeft_add_eq_or_of_lt (b:=y) (i:=32) (by simpa using h) x;rw [Nat.shiftLeft_eq] at this;rw [Nat.or_comm];simpa using this.symm
theorem q1u (_:List UInt8) (_:Nat) (u v:Nat) (hu:u < 4294967296) (hv:v < 4294967296):JK .u64 (u:Nat) (IntKind.u64.wrap ((v:Int) * 4294967296)) = ((v * 4294967296+u:Nat):Int):=by
 have e1:=qN ((v:Int) * 4294967296) ((v * 4294967296:Nat):Int);rw [e1,qg0 rfl (Nat.lt_of_lt_of_eq (by omega) bits64.symm) (Nat.lt_of_lt_of_eq (by omega) bits64.symm),qw9 v u hu]
theorem qxA (l:List UInt8) (a:Nat):leN ((l.drop a).take 8) = vg l (a+4) * 4294967296+vg l a:=by
 unfold vg;rw [show (8:Nat) = 4+4 by rfl,List.take_add,qgM,jV];by_cases h:4≤(l.drop a).length
 ·have:((l.drop a).take 4).length = 4:=by rw [jU];omega
  rw [this];omega
 ·have:(l.drop (a+4)).take 4 = []:=by
   rw [List.drop_of_length_le (by rw [vQ] at h;omega)];rfl
  rw [this];simp [leN]
theorem qe2 [MaxL] [TxtC] (s:Sl UInt8) (a:Nat) (ha:a < 1000000000) (hs:s.l.length < 1000000000) {x:Int} (hx:x = a):call cx 189 [(.vsl s.nil (qd s.l) s.l.length),.int .i64 x] [] = some (.int .u64 (leN ((s.l.drop a).take 8):Nat),[]):=by
 subst hx;have w1:=qcb s.nil s.l s.h a (by omega) (by omega) (at_:=a) rfl;have w2:=qcb s.nil s.l s.h (a+4) (by omega) (by omega) (at_:=(a:Int)+4) (by omega);have hw:=qx ((a:Int)+4) ((a:Int)+4);have hv:=q1u s.l a _ _ (qdz s.l a) (qdz s.l (a+4));have hu1:=qdz s.l a;have hu2:=qdz s.l (a+4);rw [qxA];generalize vg s.l a = u at *;generalize vg s.l (a+4) = v at *;refine qy Tryz.func189 rfl ⟨rfl,rfl⟩ ?_;simp [Tryz.f189,w1,w2,hw];have e1:=qN (u:Int) (u:Int);have e2:=qN (v:Int) (v:Int);have e3:min 32 IntKind.u64.bits = 32:=rfl;rw [e1,e2,e3];simpa using hv
def qfQ (q:D × qe):Prop:= ∃ x:Int,j5 x∧q = (.int .u64 x,[])
theorem qdy (z:Int):j5 (IntKind.u64.wrap z):=by
 simp only [IntKind.wrap,IntKind.signed,IntKind.bits];simp;unfold j5;omega
theorem qk5 (a b:Int):j5 (qH .u64 a b):=by
 unfold qH;exact qdy _
theorem qi1 [MaxL] [TxtC] (a b c d:Int) (n:Nat) (hn:n≤100) {x:Int} (hx:x = n):∃ a1 b1 c1 d1:Int,call cx 190 [.agg [.int .u64 a,.int .u64 b,.int .u64 c,.int .u64 d],.int .i64 x] [] = some (.agg [.int .u64 a1,.int .u64 b1,.int .u64 c1,.int .u64 d1],[]):=by
 subst hx;have h:=qlH (a,b,c,d) n hn;obtain ⟨⟨a1,b1,c1,d1⟩,hR⟩:∃ t,ZQ n (a,b,c,d) = t:=⟨_,rfl⟩;rw [hR] at h;exact ⟨a1,b1,c1,d1,h⟩
set_option maxHeartbeats 2000000 in
theorem qur [MaxL] [TxtC] (key:ID) (s:Sl UInt8) (hs:s.l.length < 1000000):∃ q,call cx 134 [.agg (qd key.l),(.vsl s.nil (qd s.l) s.l.length)] [] = some q∧qfQ q:=by
 have e0:=qe2 (Sl.mk false key.l (by simp)) 0 (by omega) (by simp only [key.h];omega) (x:=0) rfl;have e8:=qe2 (Sl.mk false key.l (by simp)) 8 (by omega) (by simp only [key.h];omega) (x:=8) rfl;refine VR (X:=cx) (f:=134) qfQ Tryz.func134 rfl ⟨rfl,rfl⟩ ?_;have hk:key.l.length = 16:=key.h;simp only [hk] at e0 e8;simp [Tryz.f134,e0,e8,hk];refine Run.loopThen (fun (k:Nat) e H=>k≤s.l.length∧qi e 1 = some (.vsl s.nil (qd s.l) s.l.length)∧qi e 7 = some (.optr 1 4 0)∧qi e 8 = some (.int .i64 k)∧∃ a b c d:Int,H = [none,some [.int .u64 a,.int .u64 b,.int .u64 c,.int .u64 d]]) (fun k=>s.l.length - k) 0 ?_ ?_
 ·exact ⟨vV _,by simp,by simp,by simp,_,_,_,_,rfl⟩
 rintro k e H ⟨hkl,p1,p7,p8,a,b,c,d,rfl⟩;have hw:=qx ((k:Int)+8) ((k+8:Nat):Int);have ek:=qe2 s k (by omega) (by omega) (x:=(k:Int)) rfl;obtain ⟨m,hm⟩:=ql (leN (List.take 8 (List.drop k s.l)));rw [hm] at ek;by_cases h8:k+8≤s.l.length
 ·have h8':((k+8:Nat):Int)≤(s.l.length:Int):=by omega
  have h8'':(k:Int)+8≤(s.l.length:Int):=by omega
  obtain ⟨a1,b1,c1,d1,r2⟩:=qi1 a b c (qH .u64 d m) 2 (by omega) (x:=2) rfl;simp [p1,p7,p8,hw,h8'',ek,r2];exact ⟨k+8,by omega,by omega,by omega⟩
 ·have h8':¬ ((k+8:Nat):Int)≤(s.l.length:Int):=by omega
  have h8'':¬ (k:Int)+8≤(s.l.length:Int):=by omega
  obtain ⟨M,hM⟩:=ql (JK .u64 (m:Int) (IntKind.u64.wrap (IntKind.u64.wrap ((s.l.length:Int).tmod 256) * 2 ^ (min 56 IntKind.u64.bits))));obtain ⟨a1,b1,c1,d1,r2⟩:=qi1 a b c (qH .u64 d M) 2 (by omega) (x:=2) rfl;obtain ⟨a2,b2,c2,d2,r4⟩:=qi1 (qH .u64 a1 M) b1 (qH .u64 c1 255) d1 4 (by omega) (x:=4) rfl;simp [p1,p7,p8,hw,h8'',ek,hM,r2,r4];exact ⟨_,qk5 _ _,rfl⟩
theorem qkv [MaxL] [TxtC] (s:Sl UInt8) (hn:s.l.length≤140737488355328) :
  call cx 94 [(.vsl s.nil (qd s.l) s.l.length)] [] = if s.nil then some (.vsl true [] 0,[]) else some (.osl 0 s.l.length 0 s.l.length 1,[some (qd s.l)]):=by
 obtain ⟨nil,l,qU⟩:=s;simp only at hn ⊢;cases nil with
 | true =>
  have hl0:=qU rfl;subst hl0;rw [if_pos rfl];refine qy Tryz.func94 rfl ⟨rfl,rfl⟩ ?_;simp [Tryz.f94]
 | false =>
  rw [if_neg (by decide)];refine qy Tryz.func94 rfl ⟨rfl,rfl⟩ ?_;simp [Tryz.f94,qD,hn]
def Buf (d:D) (H:qe) (l:List UInt8):Prop:=(d = .vsl true [] 0∧l = []∧H = [])∨(d = .osl 0 l.length 0 l.length 1∧H = [some (qd l)])
end Go.Ev.S
namespace Go.Ev
open Go Go.Proofs
structure Kn where
 text:List UInt8
 at_:Nat
 slot:Nat
 cnt:Nat
 nil:Bool
 arrs:List Nat
instance:Enc Kn:=⟨5,fun k=>[.str k.text,.int .u64 k.at_,.int .i64 k.slot,.int .i64 k.cnt,.vsl k.nil (qJ .u64 k.arrs) k.arrs.length],fun _=>rfl,fun _=>rfl⟩
theorem Kn.cells (k:Kn):Enc.cells k = [.str k.text,.int .u64 k.at_,.int .i64 k.slot,.int .i64 k.cnt,.vsl k.nil (qJ .u64 k.arrs) k.arrs.length]:=rfl
@[simp] theorem Kn.size:Enc.size Kn = 5:=rfl
@[simp] theorem Kn.cl (a:Kn):(Enc.cells a).length = 5:=Enc.len a
@[simp] theorem Kn.ct (a:Kn) (r:List D):(Enc.cells a ++ r).take 5 = Enc.cells a:=qdg rfl a r
@[simp] theorem Kn.ct' (a:Kn):(Enc.cells a).take 5 = Enc.cells a:=qdf rfl a
@[simp] theorem Kn.cd (a:Kn) (r:List D):(Enc.cells a ++ r).drop 5 = r:=qdh rfl a r
@[simp] theorem Kn.el (l:List Kn):(qu l).length = l.length * 5:=qaP rfl l
@[simp] theorem Kn.ed (l:List Kn) (i:Nat):(qu l).drop (i * 5) = qu (l.drop i):=qaQ rfl l i
@[simp] theorem Kn.et (l:List Kn) (i:Nat):(qu l).take (i * 5) = qu (l.take i):=qaO rfl l i
@[simp high] theorem Kn.ea {l:List Kn} {i:Nat} (h:i < l.length):(qu l).drop (i * 5) = Enc.cells l[i] ++ qu (l.drop (i+1)):=YS rfl h
@[simp high] theorem Kn.es (m:Kn) {l:List Kn} {j:Nat} (h:j < l.length):zM (qu l) (j * 5) (Enc.cells m) = qu (l.set j m):=Ya rfl m l h
def ZP (k:Nat):Nat:=if k < 6 then 4 * 2 ^ k else 256
def vo:Nat→Nat
 | 0=>0
 | k+1=>vo k+ZP k
theorem qi3 (k:Nat):4≤ZP k:=by
 unfold ZP;split
 ·have:=Nat.one_le_two_pow (n:=k);omega
 ·omega
theorem qgm (k:Nat):ZP k≤256:=by
 unfold ZP;split
 ·rename_i h;have:2 ^ k≤2 ^ 5:=YZ (by decide) (by omega);omega
 ·omega
structure ArrOk (bl:Nat) (arrs:List Nat) (n:Nat):Prop where
 nil:arrs = []→n = 0
 lo:∀ j,arrs.length = j+1→vo j < n
 hi:n≤vo arrs.length
 at_:∀ (j a:Nat),arrs[j]? = some a→a+24+8 * ZP j≤bl
theorem ArrOk.mono {bl bl':Nat} {arrs:List Nat} {n:Nat} (h:ArrOk bl arrs n) (hb:bl≤bl'):ArrOk bl' arrs n :=
 ⟨h.nil,h.lo,h.hi,fun j a hj=>zT (h.at_ j a hj) hb⟩
theorem ArrOk.zero (bl:Nat):ArrOk bl [] 0:=⟨fun _=>rfl,fun j hj=>by simp at hj,by simp [vo],fun j a hj=>by simp at hj⟩
theorem qif {j:Nat}:vo j < vo (j+1):=by
 have:=qi3 j;simp only [vo];omega
theorem ArrOk.more {bl:Nat} {arrs:List Nat} {n:Nat} (h:ArrOk bl arrs n) (hn:n≠vo arrs.length):∃ j a,arrs.length = j+1∧arrs[j]? = some a∧vo j < n∧n - vo j < ZP j∧a+24+8 * (n - vo j)+8≤bl∧ArrOk bl arrs (n+1):=by
 cases hl:arrs.length with
 | zero =>
  have h0:arrs = []:=List.length_eq_zero_iff.1 hl;exact absurd (by rw [h.nil h0,hl];rfl) hn
 | succ j =>
  have h1:=h.lo j hl;have h2:=h.hi;rw [hl] at hn h2;have h3:vo (j+1) = vo j+ZP j:=rfl;have qg:j < arrs.length:=by omega
  have h4:=h.at_ j arrs[j] (zn qg);refine ⟨j,arrs[j],rfl,zn qg,h1,by omega,by omega,⟨fun h0=>by rw [h0] at hl;simp at hl,fun i hi=>?_,by rw [hl];omega,h.at_⟩⟩;have:i = j:=by omega
  subst this;omega
theorem ArrOk.new {bl bl':Nat} {arrs:List Nat} (h:ArrOk bl arrs (vo arrs.length)) {a:Nat} (hb:bl≤bl') (ha:a+24+8 * ZP arrs.length≤bl'):ArrOk bl' (arrs ++ [a]) (vo arrs.length+1):=by
 refine ⟨fun h0=>by simp at h0,fun j hj=>?_,?_,fun j b hj=>?_⟩
 ·simp only [zz,vn,kp] at hj;have:j = arrs.length:=by omega
  subst this;omega
 ·simp only [zz,vn,kp,vo];have:=qi3 arrs.length;omega
 ·by_cases qg:j < arrs.length
  ·rw [kg qg] at hj;exact zT (h.at_ j b hj) hb
  ·have hje:=(List.getElem?_eq_some_iff.1 hj).1;simp only [zz,vn,kp] at hje;have:j = arrs.length:=(by omega);subst this;simp at hj;subst hj;exact ha
def ArrW (bl:Nat) (arrs:List Nat) (ne:Nat):Prop:= ∃ n,n≤ne+1∧ArrOk bl arrs n
theorem ArrW.mono {bl bl':Nat} {arrs:List Nat} {ne:Nat} (h:ArrW bl arrs ne) (hb:bl≤bl'):ArrW bl' arrs ne:=by
 obtain ⟨n,h1,h2⟩:=h;exact ⟨n,h1,h2.mono hb⟩
structure Kn.Ok (k:Kn) (bl ds:Nat):Prop where
 at_:k.at_+64≤bl
 slot:k.slot < ds
 arr:ArrOk bl k.arrs (k.cnt - 1)
 nil:k.nil = true→k.arrs = []
 txt:k.text.length≤1000
theorem Kn.Ok.mono {k:Kn} {bl bl' ds:Nat} (h:k.Ok bl ds) (hb:bl≤bl'):k.Ok bl' ds:=⟨zT h.at_ hb,h.slot,h.arr.mono hb,h.nil,h.txt⟩
structure Kn.OkF (k:Kn) (bl fs:Nat):Prop where
 at_:k.at_+40≤bl
 slot:k.slot < fs
theorem Kn.OkF.mono {k:Kn} {bl bl' fs:Nat} (h:k.OkF bl fs) (hb:bl≤bl'):k.OkF bl' fs:=⟨zT h.at_ hb,h.slot⟩
structure Jm where
 cs:List D
 b:List UInt8
 da:List Kn
 fi:List Kn
 ds:Nat
 fs:Nat
 key:Bool
 file:ID
 ft:Nat
 ne:Nat
 tl:Nat
 mn:Bool
 main:List Nat
 dv:D
 fv:D
 bi:Nat
 Ld:List Nat
 Lf:List Nat
def Jm.names (m:Jm) (q:Nat):List Nat:=q :: m.bi :: (m.Ld ++ m.Lf)
def isU (d:D):Prop:= ∃ v:Nat,d = .int .u64 (v:Int)∧v < 18446744073709551616
structure JmW (H:qe) (q:Nat) (m:Jm):Prop where
 root:qf H q = some m.cs
 len:m.cs.length = 147
 file:m.cs.take 16 = qd m.file.l
 c48:m.cs[48]? = some (.int .i64 m.ds)
 c49:m.cs[49]? = some (.int .i64 m.fs)
 c50:m.cs[50]? = some (.int .i64 32768)
 c51:m.cs[51]? = some (.bool m.key)
 c52:m.cs[52]? = some (.int .u32 2)
 c53:m.cs[53]? = some (.int .u32 (if m.key then 4 else 0))
 c54:m.cs[54]? = some (.int .i64 1)
 ids:∃ a b c d:ID,(m.cs.drop 55).take 64 = qd a.l ++ (qd b.l ++ (qd c.l ++ qd d.l))
 c119:m.cs[119]? = some (.int .u64 272)
 c121:m.cs[121]? = some (.int .u64 288)
 c122:m.cs[122]? = some (.int .u64 (16 * m.ds:Nat))
 c123:m.cs[123]? = some (.int .u64 m.ft)
 c124:m.cs[124]? = some (.int .u64 (16 * m.fs:Nat))
 c127:m.cs[127]? = some (.int .u64 m.ne)
 c128:m.cs[128]? = some (.int .u64 m.tl)
 nums:∀ i,119≤i→i < 139→∃ d,m.cs[i]? = some d∧isU d
 c139:∃ v:Nat,m.cs[139]? = some (.int .u32 (v:Int))∧v < 4294967296
 c140:∃ v:Nat,m.cs[140]? = some (.int .u32 (v:Int))∧v < 4294967296
 c141:∃ d,m.cs[141]? = some d∧isU d
 c142:∃ d,m.cs[142]? = some d∧isU d
 c143:m.cs[143]? = some (.osl m.bi m.b.length 0 m.b.length 1)
 c144:m.cs[144]? = some m.dv
 c145:m.cs[145]? = some m.fv
 c146:m.cs[146]? = some (.vsl m.mn (qJ .u64 m.main) m.main.length)
 bytes:qf H m.bi = some (qd m.b)
 rowD:RowA H 5 m.dv (qu m.da) m.Ld
 rowF:RowA H 5 m.fv (qu m.fi) m.Lf
 nodup:(m.names q).Nodup
 free:∀ (i:Nat) (d:D),i < 143→m.cs[i]? = some d→idFree d = true
theorem qbM {cs:List D} {i:Nat} {x:D} (h:∀ (j:Nat) (d:D),j < 143→cs[j]? = some d→idFree d = true) (hx:i < 143→idFree x = true):∀ (j:Nat) (d:D),j < 143→(cs.set i x)[j]? = some d→idFree d = true:=fun j d hj he=>by
 by_cases zu:i = j
 ·subst zu;rw [List.getElem?_set_self'] at he;cases hc:cs[i]? with
  | none=>rw [hc] at he;simp at he
  | some y =>
   rw [hc] at he;simp at he;subst he;exact hx hj
 ·rw [List.getElem?_set_ne zu] at he;exact h j d hj he
theorem qjw {d:D} (h:isU d):idFree d = true:=by
 obtain ⟨v,rfl,_⟩:=h;rfl
structure Jm.Ok (m:Jm):Prop where
 ds:1≤m.ds∧m.ds≤64
 fs:1≤m.fs∧m.fs≤64
 ft:m.ft = 288+16 * m.ds+16
 bl:m.ft+16 * m.fs≤m.b.length
 bmod:m.b.length % 8 = 0
 bmax:m.b.length≤1000000
 da:∀ k,k∈m.da→k.Ok m.b.length m.ds
 fi:∀ k,k∈m.fi→k.OkF m.b.length m.fs
 main:ArrW m.b.length m.main m.ne
 mn:m.mn = true→m.main = []
 tl:m.tl < 18446744073709551616
 ne:m.ne≤200
 nda:m.da.length≤1000
 nfi:m.fi.length≤1000
 cn:∀ k,k∈m.da→k.cnt≤4 * m.ne+4
end Go.Ev
namespace Go.Ev.S
open Go Go.Proofs Go.Ev
theorem qnh [MaxL] [TxtC] (v n:Nat) (ja:1≤n) (hn8:n≤8) (hv:v < 18446744073709551616):call cx 95 [.int .u64 v,.int .i64 n] [] = some (.vsl false (qd (ZV n v)) n,[]):=by
 refine qy Tryz.func95 rfl ⟨rfl,rfl⟩ ?_;simp [Tryz.f95];refine Run.loopThen (fun (i:Nat) e H=>i≤n∧(∃ d,qi e 5 = some d∧Buf d H (ZV i v))∧qi e 0 = some (.int .u64 (v / 256 ^ i:Nat))∧qi e 1 = some (.int .i64 n)∧qi e 6 = some (.int .i64 i)) (fun i=>n - i) 0 ?_ ?_
 ·simp [ZV,Buf]
 rintro i e H ⟨hi,⟨d,h5,qbC⟩,h0,h1,h6⟩;by_cases qg:i < n
 ·have qo:=zI qg;have hw:=qx ((i:Int)+1) ((i+1:Nat):Int);have hsn:=qnr i v;have hl:(ZV i v).length≤8:=by simp;omega
  have hq:v / 256 ^ i < 18446744073709551616:=Nat.lt_of_le_of_lt (Nat.div_le_self _ _) hv;have hnx:v / 256 ^ (i+1) = v / 256 ^ i / 256:=by rw [qdu,Nat.div_div_eq_div_mul]
  generalize v / 256 ^ i = x at *
  have ht1:(x:Int).tmod 256 = ((x % 256:Nat):Int):=by
   rw [Int.tmod_eq_emod_of_nonneg (Int.natCast_nonneg _)];rfl
  have ht2:(x:Int).tdiv 256 = ((x / 256:Nat):Int):=by
   rw [Int.tdiv_eq_ediv_of_nonneg (Int.natCast_nonneg _)];rfl
  have hx256:x % 256 < 256:=Yh _ (by decide)
  have jb:IntKind.u8.wrap ((x % 256:Nat):Int) = ((UInt8.ofNat (x % 256)).toNat:Int):=by
   rw [qeE hx256];clear hv hq;generalize x % 256 = y at *;rw [qdx];omega
  have qZ:IntKind.u64.wrap ((x / 256:Nat):Int) = ((x / 256:Nat):Int):=by
   have:x / 256 < 18446744073709551616:=Nat.lt_of_le_of_lt (Nat.div_le_self _ _) hq;clear hv hq;generalize x / 256 = y at *;rw [qca];omega
  generalize UInt8.ofNat (x % 256) = c at *;clear hv hq;generalize ZV i v = l at *;have Zt:l.length+1≤140737488355328:=zT (Nat.add_le_add_right hl 1) (by decide);rcases qbC with ⟨rfl,rfl,rfl⟩ | ⟨rfl,rfl⟩
  ·simp [h5,h0,h1,h6,qo,hw,ht1,ht2,jb,qZ,qD,-Int.natCast_emod,-Int.natCast_ediv];clear Zt;exact ⟨i+1,by omega,by omega,.inr (by simp [hsn,qd]),by rw [hnx],rfl⟩
  ·simp [h5,h0,h1,h6,qo,hw,ht1,ht2,jb,qZ,qD,Zt,-Int.natCast_emod,-Int.natCast_ediv];clear Zt;exact ⟨i+1,by omega,by omega,.inr (by simp [hsn,qd]),by rw [hnx],rfl⟩
 ·have qo:=zL qg;have h8:i = n:=by omega
  subst h8;have hl:(ZV i v).length = i:=qns i v;generalize ZV i v = l at *;rcases qbC with ⟨rfl,rfl,rfl⟩ | ⟨rfl,rfl⟩
  ·simp at hl;omega
  ·simp [h5,h0,h1,h6,hl,qP]
theorem qm4 (t:Int × Int × Int):j5 (qbn t):=by
 obtain ⟨x,y,z⟩:=t;exact qdy _
theorem qnn:∀ (n:Nat) (l:List UInt8) (t:Int × Int × Int),l.length≤n→j5 (Kq l t)
 | n,l,t,h=>by
  by_cases h1:12 < l.length
  ·rw [qjm h1];cases n with
   | zero=>omega
   | succ n=>exact qnn n _ _ (by rw [vQ];omega)
  ·by_cases h0:l.length = 0
   ·rw [qjl h0];exact qm4 _
   ·obtain ⟨⟨x,z,y⟩,hf⟩:∃ q,qdM (JF l t) = q:=⟨_,rfl⟩;rw [qjn h1 h0 hf];exact qm4 _
theorem qx0 (l:List UInt8):j5 (Y1 l):=qnn l.length _ _ (qE _)
theorem qiX [MaxL] [TxtC] (kd:Bool) (key:ID) (s:Sl UInt8) (hs:s.l.length < 1000000):∃ q,call cx 86 [.bool kd,.agg (qd key.l),(.vsl s.nil (qd s.l) s.l.length)] [] = some q∧qfQ q:=by
 cases kd with
 | true =>
  obtain ⟨q,h,x,hx,rfl⟩:=qur key s hs;refine ⟨_,qy Tryz.func86 rfl ⟨rfl,rfl⟩ ?_,x,hx,rfl⟩;simp [Tryz.f86,h]
 | false =>
  have h:=qgn s (by omega);refine ⟨_,qy Tryz.func86 rfl ⟨rfl,rfl⟩ ?_,Y1 s.l,qx0 _,rfl⟩;simp [Tryz.f86,h]
def qtf (n:Nat) (q:D × qe):Prop:= ∃ s:List UInt8,s.length = n∧q = (.vsl (decide (n = 0)) (qd s) n,[])
def qhH (n:Nat) (q:D × qe):Prop:= ∃ s:List UInt8,s.length = n∧q = (.osl 0 n 0 n 1,[some (qd s)])
def JM (cs:List D):Prop:= ∀ d,d∈cs→isU d
def q3y (d:D) (H:qe) (l:List UInt8):Prop:=(d = .vsl true [] 0∧l = []∧H = [])∨(d = .osl 0 l.length 0 l.length 1∧H = [some (qd l)]∧l≠[])
set_option maxHeartbeats 1000000 in
theorem qbq [MaxL] [TxtC] (nl:Bool) (cs:List D) (hu:JM cs) (zF:nl = true→cs = []) (hl:cs.length≤100000) (hl0:1≤cs.length):∃ q,call cx 96 [.vsl nl cs cs.length] [] = some q∧qhH (8 * cs.length) q:=by
 refine VR (X:=cx) (f:=96) (qhH _) Tryz.func96 rfl ⟨rfl,rfl⟩ ?_;simp [Tryz.f96];refine Run.loopThen (fun (i:Nat) e H=>i≤cs.length∧qi e 0 = some (.vsl nl cs cs.length)∧qi e 4 = some (.int .i64 i)∧∃ d l,qi e 3 = some d∧q3y d H l∧l.length = 8 * i) (fun i=>cs.length - i) 0 ?_ ?_
 ·exact ⟨vV _,by simp,by simp,_,[],by simp,.inl ⟨rfl,rfl,rfl⟩,rfl⟩
 rintro i e H ⟨hi,p0,p4,d,l,p3,hb,hlen⟩;by_cases qg:i < cs.length
 ·have qo:=zI qg;have hw:=qx ((i:Int)+1) ((i+1:Nat):Int);have zx:nl = false:=Bool.eq_false_iff.2 fun h=>by rw [zF h] at qg;simp at qg
  subst zx;obtain ⟨v,hv,jI⟩:=hu _ (v6 qg);have hd:cs.drop i = .int .u64 (v:Int) :: cs.drop (i+1):=by rw [zU qg,hv]
  have h1:call cx 95 [.int .u64 v,.int .i64 8] [] = some (.vsl false (qd (ZV 8 v)) 8,[]):=qnh v 8 (by omega) (by omega) jI;have XS:(ZV 8 v).length = 8:=by simp
  generalize ZV 8 v = B at *;rcases hb with ⟨rfl,rfl,rfl⟩ | ⟨rfl,rfl,qQ⟩
  ·have JR:i = 0:=(by simp at hlen;omega);simp [p0,p3,p4,qo,hd,h1,hw,qD,XS];exact ⟨i+1,by omega,by omega,by omega,B,.inr ⟨by rw [XS],by simp,fun h=>by rw [h] at XS;simp at XS⟩,by omega⟩
  ·have c1:l.length+8≤140737488355328:=(by omega);simp [p0,p3,p4,qo,hd,h1,hw,qD,XS,c1];exact ⟨i+1,by omega,by omega,by omega,l ++ B,.inr ⟨by simp [XS],by simp [qd],by simp [qQ]⟩,by simp [XS];omega⟩
 ·have qo:=zL qg;have Q9:i = cs.length:=by omega
  subst Q9;rcases hb with ⟨rfl,rfl,rfl⟩ | ⟨rfl,rfl,qQ⟩
  ·simp at hlen;omega
  ·simp [p0,p3,p4,qo,hlen];exact ⟨l,hlen,rfl⟩
def Qt (n:Nat):Nat:=(n+7) / 8 * 8
set_option maxHeartbeats 2000000 in
theorem qmj [MaxL] [TxtC] (k:Nat) (hk:1≤k∧k≤7) (nl:Bool) (b:List UInt8) (_:nl = true→b = []) (hb:b.length≤1000000):∃ q,call cx 126 [.int .i64 k,.vsl nl (qd b) b.length] [] = some q∧qtf (Qt (16+b.length)) q:=by
 refine VR (X:=cx) (f:=126) (qtf _) Tryz.func126 rfl ⟨rfl,rfl⟩ ?_;have k1:¬ (k:Int) < 1:=by omega
 have k2:¬ (7:Int) < (k:Int):=by omega
 obtain ⟨N,hN⟩:∃ N,N = 16+b.length:=⟨_,rfl⟩;rw [← hN];have hw:=qx (16+(b.length:Int)) (N:Int);have qZ:=qN (N:Int) (N:Int);obtain ⟨c,hc⟩:∃ c:UInt8,(k:Int) % 256 = (c.toNat:Int):=⟨UInt8.ofNat k,by rw [qeE (by simp only [UInt8.size];omega)];omega⟩
 obtain ⟨q,hn,s,hs,rfl⟩:=qbq false [.int .u64 (N:Int)] (by
  intro d hd;rw [List.mem_singleton.1 hd];exact ⟨_,rfl,by omega⟩) (by simp) (by simp) (by simp)
 have hs8:s.length = 8:=hs;simp at hn;have c1:16+b.length≤140737488355328:=by omega
 have QB:IntKind.u8.wrap (k:Int) = (c.toNat:Int):=by
  rw [← hc,qdx] <;> omega
 have hc3:D.int IntKind.u8 0 = D.int IntKind.u8 ((0:UInt8).toNat:Int):=rfl;simp [Tryz.f126,k1,k2,hw,qZ,QB,hn,hs8,qD,c1];refine Run.loopThen (fun (j:Nat) e H=>N≤j∧j≤Qt N∧∃ l t,l.length = j∧H = some (qd l) :: t∧qi e 5 = some (.osl 0 j 0 j 1)) (fun j=>Qt N - j) N ?_ ?_
 ·refine ⟨qE _,by unfold Qt;omega,c :: 0 :: 0 :: 0 :: 0 :: 0 :: 0 :: 0 :: (s ++ b),_,by simp [hs8];omega,by simp [qd];exact rfl,?_⟩;simp [hN]
 rintro j e H ⟨hj,JQ,l,t,hl,rfl,p5⟩;have ha:Qt N≤N+7:=by unfold Qt;omega
 have ht:(j:Int).tmod 8 = ((j % 8:Nat):Int):=by
  rw [Int.tmod_eq_emod_of_nonneg (Int.natCast_nonneg _)];rfl
 by_cases h8:j % 8 = 0
 ·have hje:j = Qt N:=by unfold Qt at JQ ⊢;omega
  have h0:Qt N≠0:=by omega
  have h8i:(j:Int) % 8 = 0:=by omega
  simp [p5,ht,h8,hl];have jc:List.take j (qd l) = qd l:=qP (by simp;omega);refine ⟨l,by omega,?_⟩;rw [← hje,decide_eq_false (by omega)]
 ·have zO:j < Qt N:=by unfold Qt at JQ ⊢;omega
  have h8':¬ (j:Int) % 8 = 0:=by omega
  have c2:j+1≤140737488355328:=by omega
  simp [p5,ht,h8',hl,c2,qD];exact ⟨j+1,by omega,by omega,by omega,l ++ [0],by simp [hl],by simp [qd],rfl⟩
theorem qeu {x:D} (h:isU x):JM [x]:=fun d hd=>by rw [List.mem_singleton.1 hd];exact h
theorem qas {x:D} {l:List D} (h:isU x) (hl:JM l):JM (x :: l):=fun d hd=>by
 rcases List.mem_cons.1 hd with rfl | hd
 ·exact h
 ·exact hl d hd
theorem qzn:JM []:=fun d hd=>by cases hd
theorem qdH {l:List D} (h:JM l):l.all idFree = true:=List.all_eq_true.2 fun d hd=>by
 obtain ⟨v,rfl,_⟩:=h d hd;rfl
theorem qh7 (n:Nat):n≤Qt n∧Qt n≤n+7∧Qt n % 8 = 0:=by unfold Qt;omega
theorem qkL {cs:List D} {n i:Nat} (hu:JM cs) (hl:cs.length = n * 2) (hi:i < n):∃ a b:Nat,a < 18446744073709551616∧b < 18446744073709551616∧cs.drop (i * 2) = .int .u64 (a:Int) :: .int .u64 (b:Int) :: cs.drop (i * 2+2):=by
 have h1:i * 2 < cs.length:=by omega
 have h2:i * 2+1 < cs.length:=by omega
 obtain ⟨a,ha,YJ⟩:=hu _ (v6 h1);obtain ⟨b,hb,kQ⟩:=hu _ (v6 h2);exact ⟨a,b,YJ,kQ,by rw [zU h1,ha,zU h2,hb]⟩
theorem qmK [MaxL] [TxtC] (a b:Nat) (ha:a < 18446744073709551616) (hb:b < 18446744073709551616):∃ s:List UInt8,s.length = 16∧call cx 96 [.vsl false [.int .u64 (a:Int),.int .u64 (b:Int)] 2] [] = some (.osl 0 16 0 16 1,[some (qd s)]):=by
 obtain ⟨q,h,s,hs,rfl⟩:=qbq false [.int .u64 (a:Int),.int .u64 (b:Int)] (qas ⟨a,rfl,ha⟩ (qeu ⟨b,rfl,hb⟩)) (by simp) (by simp) (by simp);exact ⟨s,hs,h⟩
theorem qiY (s p:List UInt8):qd (s ++ p) = qd s ++ qd p:=by simp [qd]
theorem qiM [MaxL] [TxtC] (k:Nat) (hk:1≤k∧k≤7) (s p:List UInt8) {n:Nat} (hn:n = s.length+p.length) (h:n≤1000000) :
  ∃ t:List UInt8,t.length = Qt (16+n)∧call cx 126 [.int .i64 k,.vsl false (qd s ++ qd p) n] [] = some (.vsl false (qd t) t.length,[]):=by
 obtain ⟨r,g,t,ht,rfl⟩:=qmj k hk false (s ++ p) (by simp) (by simp;omega);have hl:(s ++ p).length = n:=by rw [zz,hn]
 have h8:=qh7 (16+n);rw [hl] at g ht;refine ⟨t,ht,?_⟩;rw [qiY] at g;rw [g,← ht,decide_eq_false (by omega)]
def qdX (n:Nat) (q:D × qe):Prop:= ∃ s:List UInt8,s.length = n∧q = (.vsl false (qd s) s.length,[])
theorem qie {s p:List UInt8} {n:Nat} (h:n = s.length+p.length):List.take n (qd s ++ qd p) = qd s ++ qd p:=qP (by simp;omega)
set_option maxHeartbeats 2000000 in
theorem qwh [MaxL] [TxtC] (a b c d e f:Nat) (ha:a < 18446744073709551616) (hb:b < 18446744073709551616) (hc:c < 18446744073709551616) (hd:d < 18446744073709551616) (he:e < 18446744073709551616) (hf:f < 18446744073709551616) (nl:Bool) (p:List UInt8) (hp:p.length≤100000) :
  ∃ q,call cx 130 [.agg [.int .u64 a,.int .u64 b,.int .u64 c,.int .u64 d,.int .u64 e,.int .u64 f,.vsl nl (qd p) p.length]] [] = some q∧qdX (Qt (64+p.length)) q:=by
 obtain ⟨q,h,s,hs,rfl⟩:=qbq false [.int .u64 (a:Int),.int .u64 (b:Int),.int .u64 (c:Int),.int .u64 (d:Int),.int .u64 (e:Int),.int .u64 (f:Int)] (qas ⟨_,rfl,ha⟩ (qas ⟨_,rfl,hb⟩ (qas ⟨_,rfl,hc⟩ (qas ⟨_,rfl,hd⟩ (qas ⟨_,rfl,he⟩ (qeu ⟨_,rfl,hf⟩)))))) (by simp) (by simp) (by simp);have hs48:s.length = 48:=hs;replace h:call cx 96 [.vsl false [.int .u64 (a:Int),.int .u64 (b:Int),.int .u64 (c:Int),.int .u64 (d:Int),.int .u64 (e:Int),.int .u64 (f:Int)] 6] [] = some (.osl 0 48 0 48 1,[some (qd s)]):=h;obtain ⟨t,ht,g⟩:=qiM 1 (by omega) s p (n:=48+p.length) (by omega) (by omega);have c1:48+p.length≤140737488355328:=by omega
 have c2:=qie (s:=s) (p:=p) (n:=48+p.length) (by omega);replace g:call cx 126 [.int .i64 1,.vsl false (qd s ++ qd p) (48+p.length)] [] = some (.vsl false (qd t) t.length,[]):=g;refine ⟨(.vsl false (qd t) t.length,[]),qy Tryz.func130 rfl ⟨rfl,rfl⟩ ?_,t,by rw [ht];congr 1;omega,rfl⟩;simp [Tryz.f130,h,hs48,qD,g,c1,c2]
set_option maxHeartbeats 2000000 in
theorem qwe [MaxL] [TxtC] (a b c:Nat) (ha:a < 18446744073709551616) (hb:b < 18446744073709551616) (hc:c < 18446744073709551616) (nl:Bool) (p:List UInt8) (hp:p.length≤100000) :
  ∃ q,call cx 188 [.agg [.int .u64 a,.int .u64 b,.int .u64 c,.vsl nl (qd p) p.length]] [] = some q∧qdX (Qt (40+p.length)) q:=by
 obtain ⟨q,h,s,hs,rfl⟩:=qbq false [.int .u64 (a:Int),.int .u64 (b:Int),.int .u64 (c:Int)] (qas ⟨_,rfl,ha⟩ (qas ⟨_,rfl,hb⟩ (qeu ⟨_,rfl,hc⟩))) (by simp) (by simp) (by simp);have hs24:s.length = 24:=hs;replace h:call cx 96 [.vsl false [.int .u64 (a:Int),.int .u64 (b:Int),.int .u64 (c:Int)] 3] [] = some (.osl 0 24 0 24 1,[some (qd s)]):=h;obtain ⟨t,ht,g⟩:=qiM 2 (by omega) s p (n:=24+p.length) (by omega) (by omega);have c1:24+p.length≤140737488355328:=by omega
 have c2:=qie (s:=s) (p:=p) (n:=24+p.length) (by omega);replace g:call cx 126 [.int .i64 2,.vsl false (qd s ++ qd p) (24+p.length)] [] = some (.vsl false (qd t) t.length,[]):=g;refine ⟨(.vsl false (qd t) t.length,[]),qy Tryz.func188 rfl ⟨rfl,rfl⟩ ?_,t,by rw [ht];congr 1;omega,rfl⟩;simp [Tryz.f188,h,hs24,qD,g,c1,c2]
set_option maxHeartbeats 2000000 in
theorem qwp [MaxL] [TxtC] (a:Nat) (ha:a < 18446744073709551616) (nl:Bool) (cs:List D) (hu:JM cs) (zF:nl = true→cs = []) (hl:cs.length≤1000) (hl0:1≤cs.length) :
  ∃ q,call cx 137 [.agg [.int .u64 a,.vsl nl cs cs.length]] [] = some q∧qdX (24+8 * cs.length) q:=by
 obtain ⟨q,h,s,hs,rfl⟩:=qbq false [.int .u64 (a:Int)] (qeu ⟨_,rfl,ha⟩) (by simp) (by simp) (by simp);have hs8:s.length = 8:=hs;replace h:call cx 96 [.vsl false [.int .u64 (a:Int)] 1] [] = some (.osl 0 8 0 8 1,[some (qd s)]):=h;obtain ⟨q2,h2,p,hp,rfl⟩:=qbq nl cs hu zF (by omega) hl0;obtain ⟨t,ht,g⟩:=qiM 6 (by omega) s p (n:=8+8 * cs.length) (by omega) (by omega);have c1:8+8 * cs.length≤140737488355328:=by omega
 have c2:=qie (s:=s) (p:=p) (n:=8+8 * cs.length) (by omega);have c3:List.take (8 * cs.length) (qd p) = qd p:=qP (by simp;omega);have ht2:t.length = 24+8 * cs.length:=by rw [ht];unfold Qt;omega
 replace g:call cx 126 [.int .i64 6,.vsl false (qd s ++ qd p) (8+8 * cs.length)] [] = some (.vsl false (qd t) t.length,[]):=g;refine ⟨(.vsl false (qd t) t.length,[]),qy Tryz.func137 rfl ⟨rfl,rfl⟩ ?_,t,ht2,rfl⟩;simp [Tryz.f137,h,hs8,h2,hp,qD,g,c1,c2,c3]
theorem qmi [MaxL] [TxtC] (k:Nat) (hk:1≤k∧k≤7) (s:List UInt8) {n:Nat} (hn:n = s.length) (h:n≤1000000) :
  ∃ t:List UInt8,t.length = Qt (16+n)∧call cx 126 [.int .i64 k,.vsl false (qd s) n] [] = some (.vsl false (qd t) t.length,[]):=by
 obtain ⟨r,g,t,ht,rfl⟩:=qmj k hk false s (by simp) (by omega);have h8:=qh7 (16+n);rw [← hn] at g ht;exact ⟨t,ht,by rw [g,← ht,decide_eq_false (by omega)]⟩
set_option maxHeartbeats 2000000 in
theorem qmp [MaxL] [TxtC] (k:Nat) (hk:k = 4∨k = 5) (nl:Bool) (cs:List D) (n:Nat) (hu:JM cs) (hl:cs.length = n * 2) (zF:nl = true→n = 0) (hn:n≤1000) (Qr:1≤n):∃ q,call cx 81 [.int .i64 k,.vsl nl cs n] [] = some q∧qdX (16+16 * n) q:=by
 have vj:nl = false:=Bool.eq_false_iff.2 fun h=>by have:=zF h;omega
 subst vj;have hkc:((k:Int) = 4∧¬ (k:Int) = 5)∨(¬ (k:Int) = 4∧(k:Int) = 5):=by omega
 have hk7:1≤k∧k≤7:=by omega
 have clo:=qmi (k:=k) hk7;refine VR (X:=cx) (f:=81) (qdX _) Tryz.func81 rfl ⟨rfl,rfl⟩ ?_;rcases hkc with ⟨k4,k5⟩ | ⟨k4,k5⟩
 all_goals
  simp [Tryz.f81,k4,k5];refine Run.loopThen (fun (i:Nat) e H=>i≤n∧qi e 0 = some (.int .i64 k)∧qi e 1 = some (.vsl false cs n)∧qi e 6 = some (.int .i64 i)∧∃ l,l.length = 16 * i∧((i = 0∧H = []∧qi e 5 = some (.vsl true [] 0))∨(i≠0∧∃ p p2 H',H = p :: p2 :: some (qd l) :: H'∧qi e 5 = some (.osl 2 (16 * i) 0 (16 * i) 1))∨(i≠0∧∃ H',H = some (qd l) :: H'∧qi e 5 = some (.osl 0 (16 * i) 0 (16 * i) 1)))) (fun i=>n - i) 0 ?_ ?_
  ·refine ⟨vV _,by simp [k4,k5],by simp,by simp,[],rfl,.inl ⟨rfl,rfl,by simp⟩⟩
  rintro i e H ⟨hi,p0,p1,p6,l,hlen,hs⟩;by_cases qg:i < n
  ·have qo:=zI qg;have hw:=qx ((i:Int)+1) ((i+1:Nat):Int);obtain ⟨a,b,ha,hb,hd⟩:=qkL hu hl qg;obtain ⟨s,VA,hnum⟩:=qmK a b ha hb
   have jY:List.drop (i * 2+1) cs = .int .u64 (b:Int) :: cs.drop (i * 2+2):=by
    rw [← jV,hd];rfl
   have c1:16 * i+16≤140737488355328:=(by omega);rcases hs with ⟨JR,rfl,p5⟩ | ⟨JR,p,p2,H',rfl,p5⟩ | ⟨JR,H',rfl,p5⟩
   ·simp [p0,p1,p5,p6,qo,hd,hnum,hw,qD,VA];exact ⟨i+1,by omega,by omega,by omega,s,by omega,by omega,rfl,by omega⟩
   ·simp [p0,p1,p5,p6,qo,hd,hnum,hw,qD,VA,hlen,c1];exact ⟨i+1,by omega,by omega,by omega,l ++ s,by simp [hlen,VA];omega,by omega,by simp [qd],by omega⟩
   ·simp [p0,p1,p5,p6,qo,hd,hnum,hw,qD,VA,hlen,c1];exact ⟨i+1,by omega,by omega,by omega,l ++ s,by simp [hlen,VA];omega,by omega,by simp [qd],by omega⟩
  ·have qo:=zL qg;rcases hs with ⟨JR,rfl,p5⟩ | ⟨JR,p,p2,H',rfl,p5⟩ | ⟨JR,H',rfl,p5⟩
   ·omega
   ·have Q9:i = n:=(by omega);obtain ⟨t,ht,hp⟩:=clo l (n:=16 * i) (by omega) (by omega);have jc:List.take (16 * i) (qd l) = qd l:=qP (by simp;omega);have QC:Qt (16+16 * i) = 16+16 * n:=(by unfold Qt;omega);simp [p0,p1,p5,p6,qo,hlen,hp];exact ⟨t,by rw [ht,QC],rfl⟩
   ·have Q9:i = n:=(by omega);obtain ⟨t,ht,hp⟩:=clo l (n:=16 * i) (by omega) (by omega);have jc:List.take (16 * i) (qd l) = qd l:=qP (by simp;omega);have QC:Qt (16+16 * i) = 16+16 * n:=(by unfold Qt;omega);simp [p0,p1,p5,p6,qo,hlen,hp];exact ⟨t,by rw [ht,QC],rfl⟩
theorem qja [MaxL] [TxtC] (a:Nat) (ha:a < 18446744073709551616):∃ s:List UInt8,s.length = 8∧call cx 96 [.vsl false [.int .u64 (a:Int)] 1] [] = some (.osl 0 8 0 8 1,[some (qd s)]):=by
 obtain ⟨q,h,s,hs,rfl⟩:=qbq false [.int .u64 (a:Int)] (qeu ⟨a,rfl,ha⟩) (by simp) (by simp) (by simp);exact ⟨s,hs,h⟩
theorem qwV [MaxL] [TxtC] (a b c:Nat) (ha:a < 18446744073709551616) (hb:b < 18446744073709551616) (hc:c < 18446744073709551616):∃ s:List UInt8,s.length = 24∧call cx 96 [.vsl false [.int .u64 (a:Int),.int .u64 (b:Int),.int .u64 (c:Int)] 3] [] = some (.osl 0 24 0 24 1,[some (qd s)]):=by
 obtain ⟨q,h,s,hs,rfl⟩:=qbq false [.int .u64 (a:Int),.int .u64 (b:Int),.int .u64 (c:Int)] (qas ⟨a,rfl,ha⟩ (qas ⟨b,rfl,hb⟩ (qeu ⟨c,rfl,hc⟩))) (by simp) (by simp) (by simp);exact ⟨s,hs,h⟩
def qaN (a b c:Nat) (boot:ID) (x:Nat) (nl:Bool) (cs:List D) (n:Nat):List D:=[.int .u64 a,.int .u64 b,.int .u64 c] ++ (qd boot.l ++ [.int .u64 x,.vsl nl cs n])
set_option maxHeartbeats 4000000 in
theorem qwg [MaxL] [TxtC] (a b c:Nat) (boot:ID) (x:Nat) (ha:a < 18446744073709551616) (hb:b < 18446744073709551616) (hc:c < 18446744073709551616) (hx:x < 18446744073709551616) (nl:Bool) (cs:List D) (n:Nat) (hu:JM cs) (hl:cs.length = n * 2) (zF:nl = true→n = 0) (hn:n≤1000) :
  ∃ q,call cx 88 [.agg (qaN a b c boot x nl cs n)] [] = some q∧qdX (64+16 * n) q:=by
 obtain ⟨s3,hs3,h3⟩:=qwV a b c ha hb hc;obtain ⟨s1,QJ,h1⟩:=qja x hx;have jM:boot.l.length = 16:=boot.h;have kj:=qdH hu;refine VR (X:=cx) (f:=88) (qdX _) Tryz.func88 rfl ⟨rfl,rfl⟩ ?_;obtain ⟨E,hE⟩:∃ E,E = qaN a b c boot x nl cs n:=⟨_,rfl⟩;have e1:E.drop 19 = [.int .u64 x,.vsl nl cs n]:=by rw [hE];simp [qaN,jM]
 have e2:E.drop 20 = [.vsl nl cs n]:=by rw [hE];simp [qaN,jM,vX]
 have e3:(E.drop 3).take 16 = qd boot.l:=by rw [hE];simp [qaN,jM]
 have e4:E = .int .u64 a :: .int .u64 b :: .int .u64 c :: E.drop 3:=by rw [hE];simp [qaN]
 simp [Tryz.f88,qaN,h3,hs3,h1,QJ,jM,qD];have e5:(D.int IntKind.u64 (a:Int) :: D.int IntKind.u64 (b:Int) :: D.int IntKind.u64 (c:Int) :: (qd boot.l ++ [D.int IntKind.u64 (x:Int),D.vsl nl cs n])) = E:=by rw [hE];simp [qaN]
 rw [e5]
 have eI:(∀ y,y∈E→idFree y = true) = True:=eq_true fun y hy=>by
  rw [hE] at hy;simp [qaN] at hy;rcases hy with rfl | rfl | rfl | hy | rfl | rfl
  ·rfl
  ·rfl
  ·rfl
  ·exact List.all_eq_true.1 (by simp) y hy
  ·rfl
  ·rfl
 have eL:E.length = 21:=by rw [hE];simp [qaN,jM]
 refine Run.loopThen (fun (i:Nat) e H=>i≤n∧qi e 1 = some (.optr 0 21 0)∧qi e 4 = some (.int .i64 i)∧∃ l m,l.length = m∧m = 48+16 * i∧((∃ p T,H = some E :: p :: some (qd l) :: T∧qi e 3 = some (.osl 2 m 0 m 1))∨(∃ T,H = some E :: some (qd l) :: T∧qi e 3 = some (.osl 1 m 0 m 1)))) (fun i=>n - i) 0 ?_ ?_
 ·refine ⟨vV _,by simp,by simp,s3 ++ (boot.l ++ s1),48,by simp [hs3,QJ,jM],rfl,.inl ⟨_,_,by simp [qd];exact ⟨rfl,rfl⟩,by simp⟩⟩
 rintro i e H ⟨hi,p1,p4,l,m,hlen,hm,hs⟩;by_cases qg:i < n
 ·have qo:=zI qg;have hw:=qx ((i:Int)+1) ((i+1:Nat):Int);have vj:nl = false:=Bool.eq_false_iff.2 fun h=>by have:=zF h;omega
  obtain ⟨u,v,hu1,hv1,hd⟩:=qkL hu hl qg;obtain ⟨s,VA,hnum⟩:=qmK u v hu1 hv1
  have jY:List.drop (i * 2+1) cs = .int .u64 (v:Int) :: cs.drop (i * 2+2):=by
   rw [← jV,hd];rfl
  have c1:m+16≤140737488355328:=by omega
  rcases hs with ⟨p,T,rfl,p3⟩ | ⟨T,rfl,p3⟩
  ·simp [p1,p3,p4,qo,vj,hd,hnum,hw,qD,VA,hlen,c1,eI,eL,e2];exact ⟨i+1,by omega,by omega,by omega,l ++ s,by simp;omega,by simp [qd],by simp;omega⟩
  ·simp [p1,p3,p4,qo,vj,hd,hnum,hw,qD,VA,hlen,c1,eI,eL,e2];exact ⟨i+1,by omega,by omega,by omega,l ++ s,by simp;omega,by simp [qd],by simp;omega⟩
 ·have qo:=zL qg;have Q9:i = n:=by omega
  obtain ⟨t,ht,hp⟩:=qmi 3 (by omega) l (n:=m) hlen.symm (by omega);have jc:List.take m (qd l) = qd l:=qP (by simp;omega);have QC:Qt (16+m) = 64+16 * n:=by unfold Qt;omega
  replace hp:call cx 126 [.int .i64 3,.vsl false (qd l) m] [] = some (.vsl false (qd t) t.length,[]):=hp;rcases hs with ⟨p,T,rfl,p3⟩ | ⟨T,rfl,p3⟩
  ·simp [p1,p3,p4,qo,hlen,hp,eI,eL,e2];exact ⟨t,by rw [ht,QC],rfl⟩
  ·simp [p1,p3,p4,qo,hlen,hp,eI,eL,e2];exact ⟨t,by rw [ht,QC],rfl⟩
def qjz (cs:List D):Prop:= ∀ d,d∈cs→∃ s:Sl UInt8,d = (.vsl s.nil (qd s.l) s.l.length)∧s.l.length < 1000000
set_option maxHeartbeats 1000000 in
theorem qtl [MaxL] [TxtC] (nl:Bool) (cs:List D) (hb:qjz cs) (zF:nl = true→cs = []) (hl:cs.length≤100000):∃ q,call cx 89 [.vsl nl cs cs.length] [] = some q∧qfQ q:=by
 refine VR (X:=cx) (f:=89) qfQ Tryz.func89 rfl ⟨rfl,rfl⟩ ?_;simp [Tryz.f89];refine Run.loopThen (fun (i:Nat) e H=>i≤cs.length∧qi e 0 = some (.vsl nl cs cs.length)∧qi e 4 = some (.int .i64 i)∧H = []∧∃ v,j5 v∧qi e 3 = some (.int .u64 v)) (fun i=>cs.length - i) 0 ?_ ?_
 ·exact ⟨vV _,by simp,by simp,rfl,0,by unfold j5;omega,by simp⟩
 rintro i e H ⟨hi,p0,p4,rfl,v,hv,p3⟩;by_cases qg:i < cs.length
 ·have qo:=zI qg;have hw:=qx ((i:Int)+1) ((i+1:Nat):Int);have zx:nl = false:=Bool.eq_false_iff.2 fun h=>by rw [zF h] at qg;simp at qg
  subst zx;obtain ⟨s,hs,kN⟩:=hb _ (v6 qg);have hd:cs.drop i = (.vsl s.nil (qd s.l) s.l.length) :: cs.drop (i+1):=by rw [zU qg,hs]
  have h1:=qgn s (by omega);simp [p0,p3,p4,qo,hd,h1,hw];exact ⟨i+1,by omega,by omega,by omega,qk5 _ _⟩
 ·have qo:=zL qg;simp [p0,p3,p4,qo];exact ⟨v,hv,rfl⟩
theorem qgC [MaxL] [TxtC] (v:Nat) (hv:v < 4294967296):∃ s:List UInt8,s.length = 4∧call cx 95 [.int .u64 v,.int .i64 4] [] = some (.vsl false (qd s) 4,[]):=⟨ZV 4 v,by simp,qnh v 4 (by omega) (by omega) (by omega)⟩
theorem qhW (z:Int):∃ c:UInt8,IntKind.u8.wrap z = (c.toNat:Int):=by
 have h:0≤IntKind.u8.wrap z∧IntKind.u8.wrap z < 256:=by
  simp only [IntKind.wrap,IntKind.signed,IntKind.bits];simp;omega
 refine ⟨UInt8.ofNat (IntKind.u8.wrap z).toNat,?_⟩;rw [qeE (by simp only [UInt8.size];omega)];omega
theorem q3m {R:List D} (h:R.all idFree = true):(∀ x,x∈R→idFree x = true) = True:=eq_true (List.all_eq_true.1 h)
def VI (v0 v1:Nat) (st:Int) (ids:List UInt8) (ns:List D) (v2 v3 v4:Nat):List D:=.int .u32 (v0:Int) :: .int .u32 (v1:Int) :: .int .i64 st :: (qd ids ++ (ns ++ [.int .u32 (v2:Int),.int .u32 (v3:Int),.int .u64 (v4:Int)]))
set_option maxHeartbeats 4000000 in
set_option maxRecDepth 10000 in
theorem qzK [MaxL] [TxtC] (v0 v1:Nat) (st:Int) (ids:List UInt8) (ns:List D) (v2 v3 v4 dp:Nat) (h0:v0 < 4294967296) (h1:v1 < 4294967296) (hid:ids.length = 64) (XN:JM ns) (zF:ns.length = 20) (h2:v2 < 4294967296) (h3:v3 < 4294967296) (h4:v4 < 18446744073709551616) (hdp:dp < 18446744073709551616) :
  ∃ q,call cx 61 [.agg (VI v0 v1 st ids ns v2 v3 v4),.int .u64 dp] [] = some q∧qhH 272 q:=by
 obtain ⟨s0,l0,e0⟩:=qgC v0 h0;obtain ⟨s1,l1,e1⟩:=qgC v1 h1;obtain ⟨s2,l2,e2⟩:=qgC v2 h2;obtain ⟨s3,l3,e3⟩:=qgC v3 h3;obtain ⟨s4,l4,e4⟩:=qja v4 h4;obtain ⟨sd,ld,ed⟩:=qja dp hdp;obtain ⟨q,en,sn,ln,rfl⟩:=qbq false ns XN (by simp) (by omega) (by omega);rw [zF] at en ln;replace en:call cx 96 [.vsl false ns 20] [] = some (.osl 0 160 0 160 1,[some (qd sn)]):=en;replace ln:sn.length = 160:=ln;obtain ⟨c,hc⟩:=qhW st;have w0:=qN (v0:Int) (v0:Int);have w1:=qN (v1:Int) (v1:Int);have w2:=qN (v2:Int) (v2:Int);have w3:=qN (v3:Int) (v3:Int);have kj:=qdH XN;have fI:=q3m kj;have fL:=Z3 kj;have fC:=KR kj;obtain ⟨R,hR⟩:∃ R:List D,R = [.int .u32 (v2:Int),.int .u32 (v3:Int),.int .u64 (v4:Int)]:=⟨_,rfl⟩;have J8:(qd ids).length = 64:=by simp [hid]
 have d0:List.drop 84 (qd ids ++ (ns ++ R)) = R:=by rw [show (84:Nat) = 64+20 by rfl,← jV,kE J8,kE zF]
 have d1:List.drop 85 (qd ids ++ (ns ++ R)) = R.drop 1:=by rw [show (85:Nat) = 84+1 by rfl,← jV,d0]
 have d2:List.drop 86 (qd ids ++ (ns ++ R)) = R.drop 2:=by rw [show (86:Nat) = 84+2 by rfl,← jV,d0]
 have d3:List.drop 64 (qd ids ++ (ns ++ R)) = ns ++ R:=kE J8;have d4:List.take 20 (ns ++ R) = ns:=List.take_left' zF
 have hX:∀ k,k+16≤64→List.take 16 (List.drop k (qd ids ++ (ns ++ R))) = qd ((ids.drop k).take 16):=by
  intro k hk;rw [List.drop_append_of_le_length (by omega),List.take_append_of_le_length (by rw [vQ];omega)];simp [qd]
 have x0:=hX 0 (by omega);have x1:=hX 16 (by omega);have x2:=hX 32 (by omega);have x3:=hX 48 (by omega);rw [List.drop_zero] at x0;obtain ⟨b0,XT⟩:∃ b,b = (ids.drop 0).take 16:=⟨_,rfl⟩;obtain ⟨b1,vO⟩:∃ b,b = (ids.drop 16).take 16:=⟨_,rfl⟩;obtain ⟨b2,kQ⟩:∃ b,b = (ids.drop 32).take 16:=⟨_,rfl⟩;obtain ⟨b3,hb3⟩:∃ b,b = (ids.drop 48).take 16:=⟨_,rfl⟩;have g0:b0.length = 16:=by rw [XT,jU,vQ];omega
 have g1:b1.length = 16:=by rw [vO,jU,vQ];omega
 have g2:b2.length = 16:=by rw [kQ,jU,vQ];omega
 have g3:b3.length = 16:=by rw [hb3,jU,vQ];omega
 rw [← XT] at x0;rw [← vO] at x1;rw [← kQ] at x2;rw [← hb3] at x3;rw [hR] at d0 d1 d2 d3 d4 x0 x1 x2 x3;refine VR (X:=cx) (f:=61) (qhH _) Tryz.func61 rfl ⟨rfl,rfl⟩ ?_;simp [Tryz.f61,VI,hid,zF,w0,w1,w2,w3,e0,e1,e2,e3,e4,ed,en,l0,l1,l2,l3,l4,ld,ln,hc,qD,fI,fC,d0,d1,d2,d3,d4,x0,x1,x2,x3,g0,g1,g2,g3,qP];refine ⟨[76,80,75,83,72,72,82,72] ++ (s0 ++ (s1 ++ ([c,0,0,0,0,0,0,0] ++ (b0 ++ (b1 ++ (b2 ++ (b3 ++ (sn ++ (sd ++ (s2 ++ (s3 ++ s4))))))))))),by simp [l0,l1,l2,l3,l4,ld,ln,g0,g1,g2,g3],?_⟩;simp [qd]
set_option maxHeartbeats 2000000 in
theorem qfd [MaxL] [TxtC] (s:Sl UInt8) (a n:Nat) (hn:n = 4∨n = 8) (ha:a+n≤s.l.length) (hl:s.l.length≤1000000) {x y:Int} (hx:x = a) (hy:y = n):call cx 133 [(.vsl s.nil (qd s.l) s.l.length),.int .i64 x,.int .i64 y] [] = some (.tup [.int .u64 (leN ((s.l.drop a).take n):Nat),.bool true],[]):=by
 subst hx;subst hy;have zx:s.nil = false:=Sl.nn (i:=a) (by omega);rw [zx];obtain ⟨b,hb⟩:=ql (s.l);rw [hb] at ha hl ⊢;refine qy Tryz.func133 rfl ⟨rfl,rfl⟩ ?_;have a0:¬ (a:Int) < 0:=by omega
 have a1:¬ (b.length:Int) < (a:Int):=by omega
 have a2:=qx ((b.length:Int) - (a:Int)) ((b.length - a:Nat):Int);obtain ⟨z,hz⟩:∃ z,z = b.length - a:=⟨_,rfl⟩;rw [← hz] at a2;obtain ⟨R,hR⟩:=ql (leN ((b.drop a).take n));rw [hR];rcases hn with rfl | rfl
 ·have a3:¬ (z:Int) < 4:=by omega
  simp [Tryz.f133,a0,a1,a2,a3];refine Run.loopThen (fun (k:Nat) e H=>k≤4∧H = []∧qi e 0 = some (.vsl false (qd b) b.length)∧qi e 1 = some (.int .i64 a)∧qi e 9 = some (.int .i64 ((k:Int) - 1))∧qi e 8 = some (.int .u64 (leN ((b.drop (a+k)).take (4 - k)):Nat))) (fun k=>k) 4 ?_ ?_
  ·exact ⟨by omega,rfl,by simp,by simp,by simp,by simp [leN]⟩
  rintro k e H ⟨hk,rfl,p0,p1,p9,p8⟩;by_cases h0:k = 0
  ·subst h0;rw [Nat.add_zero,Nat.sub_zero,hR] at p8;simp [p0,p1,p8,p9]
  ·obtain ⟨j,rfl⟩:∃ j,k = j+1:=⟨k - 1,by omega⟩;replace p9:qi e 9 = some (.int .i64 (j:Int)):=(by rw [p9];congr 3;omega);have j0:¬ (j:Int) < 0:=(by omega);have j1:(0:Int)≤(j:Int):=(by omega);have y1:a+j < b.length:=(by omega);have hd:=zU y1
   have hv:leN ((b.drop (a+j)).take (4 - j)) = b[a+j].toNat+256 * leN ((b.drop (a+(j+1))).take (4 - (j+1))):=by
    rw [hd,show 4 - j = (4 - (j+1))+1 by omega,qhC,leN];rfl
   have V9:leN ((b.drop (a+(j+1))).take (4 - (j+1))) < 256 ^ 7:=by
    refine jZ (qbu _) (YZ (by decide) ?_);rw [jU];omega
   obtain ⟨y,hy⟩:∃ y,y = a+j:=⟨_,rfl⟩;have w1:=qx ((a:Int)+(j:Int)) (y:Int);have w2:=qx ((j:Int) - 1) (((j:Nat):Int) - 1);have zq:=b[a+j].toNat_lt
   have hdo:(qd b).drop y = .int .u8 (b[a+j].toNat:Int) :: (qd b).drop (y+1):=by
    rw [hy,zU (by simpa using y1)];simp [qd]
   obtain ⟨c,hc⟩:=ql (b[a+j].toNat);rw [hc] at hdo hv zq;obtain ⟨V,hV⟩:=ql (leN ((b.drop (a+(j+1))).take (4 - (j+1))));rw [hV] at hv V9 p8;have w3:=qN ((V:Int) * 256) ((V * 256:Nat):Int);have w4:=qN (c:Int) (c:Int);obtain ⟨X,hX⟩:=ql (V * 256);rw [hX] at w3;have w5:=qN ((X:Int)+(c:Int)) ((X+c:Nat):Int);have y1':y < b.length:=(by omega);have y2:(y:Int) < (b.length:Int):=(by omega);simp [p0,p1,p8,p9,j1,w1,w2,y2,hdo,w3,w4,w5];exact ⟨j,by omega,by omega,rfl,by rw [hv];omega⟩
 ·have a3:¬ (z:Int) < 8:=by omega
  simp [Tryz.f133,a0,a1,a2,a3];refine Run.loopThen (fun (k:Nat) e H=>k≤8∧H = []∧qi e 0 = some (.vsl false (qd b) b.length)∧qi e 1 = some (.int .i64 a)∧qi e 9 = some (.int .i64 ((k:Int) - 1))∧qi e 8 = some (.int .u64 (leN ((b.drop (a+k)).take (8 - k)):Nat))) (fun k=>k) 8 ?_ ?_
  ·exact ⟨by omega,rfl,by simp,by simp,by simp,by simp [leN]⟩
  rintro k e H ⟨hk,rfl,p0,p1,p9,p8⟩;by_cases h0:k = 0
  ·subst h0;rw [Nat.add_zero,Nat.sub_zero,hR] at p8;simp [p0,p1,p8,p9]
  ·obtain ⟨j,rfl⟩:∃ j,k = j+1:=⟨k - 1,by omega⟩;replace p9:qi e 9 = some (.int .i64 (j:Int)):=(by rw [p9];congr 3;omega);have j0:¬ (j:Int) < 0:=(by omega);have j1:(0:Int)≤(j:Int):=(by omega);have y1:a+j < b.length:=(by omega);have hd:=zU y1
   have hv:leN ((b.drop (a+j)).take (8 - j)) = b[a+j].toNat+256 * leN ((b.drop (a+(j+1))).take (8 - (j+1))):=by
    rw [hd,show 8 - j = (8 - (j+1))+1 by omega,qhC,leN];rfl
   have V9:leN ((b.drop (a+(j+1))).take (8 - (j+1))) < 256 ^ 7:=by
    refine jZ (qbu _) (YZ (by decide) ?_);rw [jU];omega
   obtain ⟨y,hy⟩:∃ y,y = a+j:=⟨_,rfl⟩;have w1:=qx ((a:Int)+(j:Int)) (y:Int);have w2:=qx ((j:Int) - 1) (((j:Nat):Int) - 1);have zq:=b[a+j].toNat_lt
   have hdo:(qd b).drop y = .int .u8 (b[a+j].toNat:Int) :: (qd b).drop (y+1):=by
    rw [hy,zU (by simpa using y1)];simp [qd]
   obtain ⟨c,hc⟩:=ql (b[a+j].toNat);rw [hc] at hdo hv zq;obtain ⟨V,hV⟩:=ql (leN ((b.drop (a+(j+1))).take (8 - (j+1))));rw [hV] at hv V9 p8;have w3:=qN ((V:Int) * 256) ((V * 256:Nat):Int);have w4:=qN (c:Int) (c:Int);obtain ⟨X,hX⟩:=ql (V * 256);rw [hX] at w3;have w5:=qN ((X:Int)+(c:Int)) ((X+c:Nat):Int);have y1':y < b.length:=(by omega);have y2:(y:Int) < (b.length:Int):=(by omega);simp [p0,p1,p8,p9,j1,w1,w2,y2,hdo,w3,w4,w5];exact ⟨j,by omega,by omega,rfl,by rw [hv];omega⟩
theorem Kj [MaxL] [TxtC] (s:Sl UInt8) (a:Nat) (ha:a+8≤s.l.length) (hl:s.l.length≤1000000) {x:Int} (hx:x = a):call cx 216 [(.vsl s.nil (qd s.l) s.l.length),.int .u64 x] [] = some (.int .u64 (qC s.l a:Nat),[]):=by
 subst hx;have h:=qfd s a 8 (.inr rfl) ha hl (x:=(a:Int)) (y:=8) rfl rfl;have hw:=qx (a:Int) (a:Int);refine qy Tryz.func216 rfl ⟨rfl,rfl⟩ ?_;have e:leN ((s.l.drop a).take 8) = qC s.l a:=rfl;rw [e] at h;simp [Tryz.f216,h,hw]
end Go.Ev.S
namespace Go.Ev
open Go Go.Proofs
@[simp] theorem q4E:qd [] = []:=rfl
theorem Xt {x y s:List UInt8} (e:s = x ++ y) (h:x.length+y.length≤100000):strD .add x y = some (.str s):=by
 simp only [strD,e];rw [if_pos (by omega)]
section
variable {H:Type} {enc:TypeId × Value→H} {P:Program} {W:World} {base n:Nat} {t e:TypeId} {v:Value} {d:DataW H} {ps:List MemPlace}
end
end Go.Ev
namespace Go.Ev
open Go Go.Proofs
def Ym (c:UInt8):Nat→List UInt8→List (List UInt8)
 | 0,s=>[s]
 | n+1,s=>if J1 [c] s 0 = -1 then [s] else s.take (J1 [c] s 0).toNat :: Ym c n (s.drop ((J1 [c] s 0).toNat+1))
def ZO (c:UInt8) (s:List UInt8):List (List UInt8):=Ym c (s.count c) s
def qcz (s:List UInt8):ID:=⟨(QH s).getD zero16,by
 cases h:QH s with
 | none=>rfl
 | some r=>exact qz2 h⟩
theorem qq3 (c:UInt8):∀ (A B:List UInt8) (n:Nat),(∀ x∈A,x≠c)→J1 [c] (A ++ c :: B) n = ((n+A.length:Nat):Int)
 | [],B,n,_=>by simp [J1,List.isPrefixOf]
 | x :: A,B,n,h=>by
  have hx:=h x (by simp);have hx2:(c == x) = false:=by simpa using Ne.symm hx
  rw [Qw,J1,if_neg (by simp [List.isPrefixOf,hx2]),qq3 c A B (n+1) fun y hy=>h y (by simp [hy])];simp;omega
theorem qlg {c:UInt8} {A:List UInt8} (h:∀ x∈A,x≠c) (B:List UInt8):ZO c (A ++ c :: B) = A :: ZO c B:=by
 have h0:A.count c = 0:=List.count_eq_zero.2 fun hm=>h c hm rfl
 have hc:(A ++ c :: B).count c = B.count c+1:=by
  rw [List.count_append,h0,List.count_cons_self];omega
 unfold ZO;rw [hc,Ym,qq3 c A B 0 h,Jo,if_neg (by omega)];have e:((A.length:Nat):Int).toNat = A.length:=by omega
 rw [e,List.take_left];congr 1;rw [← jV,List.drop_left];rfl
theorem qui {c:UInt8} {A:List UInt8} (h:∀ x∈A,x≠c):ZO c A = [A]:=by
 have h0:A.count c = 0:=List.count_eq_zero.2 fun hm=>h c hm rfl;unfold ZO;rw [h0,Ym]
theorem qqD (i:ID):qcz (ju i.l) = i:=ID.ext' (by show (QH (ju i.l)).getD zero16 = i.l;rw [qqB i.h];rfl)
def ZU (c:UInt8):Bool:=(decide (65≤c.toNat) && decide (c.toNat≤90)) || (decide (48≤c.toNat) && decide (c.toNat≤57)) || decide (c.toNat = 95)
def Xs (c:UInt8):Bool:=decide (48≤c.toNat) && decide (c.toNat≤57)
def Zo:List UInt8→Bool
 | []=>false
 | c :: l=>decide ((c :: l).length≤64) && !Xs c && (c :: l).all ZU
def qfm (p:Pr):Bool:=Zo p.name && decide (p.value.length≤256)
def vJ (b:List UInt8) (a:Nat):Nat:=vD b a 1 48 1
def Yc (b:List UInt8) (a:Nat):Nat:=qC (qB b a) 0
def jN (b:List UInt8) (a:Nat):List UInt8:=(qB b a).drop 48
def jG (x:List UInt8):List (Nat × Nat):=(List.range ((x.length - 48) / 16)).map fun i=>(qC x (48+16 * i),qC x (56+16 * i))
def Kk:List (Nat × Nat)→Bool
 | a :: b :: l=>decide (a.1 < b.1) && Kk (b :: l)
 | _=>true
def kC (b:List UInt8) (a:Nat):Nat :=
 if vD b a 3 48 16≠0 then vD b a 3 48 16
 else if qC (qB b a) 0 = 0 then 13
 else if Kk (jG (qB b a)) then 0 else 11
def jW (p:List UInt8):List UInt8:=p.takeWhile fun c=>c != 61
def Za (p:List UInt8):List UInt8:=p.drop ((jW p).length+1)
def kz (p:List UInt8):Nat :=
 if (jW p).length < p.length∧Zo (jW p) = true then (if 256 < (Za p).length then 21 else 0) else 20
def Y3 (h:HdP):Bool:=decide (h.incompat &&& 4≠0)
def Z5 (b:List UInt8) (h:HdP) (a:Nat):Nat :=
 if a < h.siz∨b.length≤a then 2
 else if vJ b a≠0 then vJ b a
 else if (Yc b a:Int)≠Xk (Y3 h) h.file.l (jN b a) then 9 else 0
def V8 (b:List UInt8) (h:HdP):List (Nat × Nat)→Nat
 | []=>0
 | x :: l=>if Z5 b h x.1≠0 then Z5 b h x.1
  else if Yc b x.1≠x.2 then 9
  else if kz (jN b x.1)≠0 then kz (jN b x.1)
  else V8 b h l
def qhP (b:List UInt8):List (Nat × Nat)→Int→Int
 | [],v=>v
 | x :: l,v=>qhP b l (qH .u64 v (Y1 (jN b x.1)))
def ka (b:List UInt8) (h:HdP) (a:Nat):Nat :=
 if a < h.siz∨b.length≤a then 2
 else if kC b a≠0 then kC b a
 else if 16 < (jG (qB b a)).length then 21
 else if V8 b h (jG (qB b a))≠0 then V8 b h (jG (qB b a))
 else if (qC (qB b a) 40:Int)≠qhP b (jG (qB b a)) 0 then 10 else 0
def qep (p:List UInt8):Pr:=⟨jW p,Za p⟩
def X6 (b:List UInt8) (a:Nat):Rec :=
 ⟨qC (qB b a) 0,qC (qB b a) 8,qC (qB b a) 16,Zq (qB b a) 24,.of ((jG (qB b a)).map fun x=>qep (jN b x.1))⟩
def JE (b:List UInt8) (h:HdP):List Nat→Nat→Nat→List Nat
 | [],_,_=>[]
 | a :: l,i,last=>if ka b h a = 0∧last < qC (qB b a) 0 then i :: JE b h l (i+1) (qC (qB b a) 0) else JE b h l (i+1) last
end Go.Ev
namespace Go.Ev.S
open Go Go.Proofs Go.Ev
theorem qfb:∀ (l:List (Nat × Nat)),Kk l = true↔∀ j (h:j+1 < l.length),(l[j]).1 < (l[j+1]).1
 | []=>by simp [Kk]
 | [a]=>by simp [Kk]
 | a :: b :: l=>by
  rw [Kk,jk,decide_eq_true_iff,qfb (b :: l)];constructor
  ·rintro ⟨h1,h2⟩ j hj;cases j with
   | zero=>exact h1
   | succ j=>exact h2 j (by simpa using hj)
  ·intro h;refine ⟨h 0 (by simp),fun j hj=>?_⟩;exact h (j+1) (by simpa using hj)
def jA:List (Nat × Nat)→List D
 | []=>[]
 | x :: l=>.int .u64 (x.1:Nat) :: .int .u64 (x.2:Nat) :: jA l
theorem qdF:∀ l:List (Nat × Nat),(jA l).length = 2 * l.length
 | []=>rfl
 | x :: l=>by simp only [jA,vn,qdF l];omega
theorem qju:∀ (l m:List (Nat × Nat)),jA (l ++ m) = jA l ++ jA m
 | [],_=>rfl
 | x :: l,m=>by simp only [Qw,jA,qju l m]
theorem qdG:∀ l:List (Nat × Nat),(jA l).all idFree = true
 | []=>rfl
 | x :: l=>by simp only [jA,VY,qdG l];rfl
theorem qcy:∀ (l:List (Nat × Nat)) (i:Nat) (h:i < l.length),(jA l).drop (2 * i) = .int .u64 ((l[i]).1:Nat) :: .int .u64 ((l[i]).2:Nat) :: (jA l).drop (2 * i+2)
 | x :: l,0,_=>rfl
 | x :: l,i+1,h=>by
  have:=qcy l i (by simpa using h);rw [show 2 * (i+1) = 2 * i+2 by omega];simpa [jA] using this
def qaM (x:List UInt8) (d:D):List D:=.int .u64 (qC x 0:Nat) :: .int .u64 (qC x 8:Nat) :: .int .u64 (qC x 16:Nat) :: (qd ((x.drop 24).take 16) ++ [.int .u64 (qC x 40:Nat),d])
def vI:List D:=(.int .u64 0::.int .u64 0::.int .u64 0::qO [.int .u64 0,.vsl true [] 0])
def qdP (b:List UInt8) (a:Nat):D:=.agg (if kC b a = 0 then qaM (qB b a) (.vsl false (jA (jG (qB b a))) (jG (qB b a)).length) else vI)
theorem qdE (x:List UInt8):(jG x).length = (x.length - 48) / 16:=by simp [jG]
theorem qfw {x:List UInt8} {k:Nat} (h:k < (jG x).length):(jG x)[k] = (qC x (48+16 * k),qC x (56+16 * k)):=by simp [jG]
theorem qqr {x:List UInt8} {k:Nat} (h:k < (jG x).length):(jG x).take (k+1) = (jG x).take k ++ [(qC x (48+16 * k),qC x (56+16 * k))]:=by
 rw [VV h,qfw h]
theorem qgJ (l:List UInt8) (h:l.length = 16):∃ c0 c1 c2 c3 c4 c5 c6 c7 c8 c9 c10 c11 c12 c13 c14 c15:UInt8,l = [c0,c1,c2,c3,c4,c5,c6,c7,c8,c9,c10,c11,c12,c13,c14,c15]:=by
 match l,h with
 | [c0,c1,c2,c3,c4,c5,c6,c7,c8,c9,c10,c11,c12,c13,c14,c15],_=>exact ⟨c0,c1,c2,c3,c4,c5,c6,c7,c8,c9,c10,c11,c12,c13,c14,c15,rfl⟩
theorem qwT {p:List UInt8} (h1:48≤p.length) (h2:(p.length - 48) % 16 = 0):(qK (jw p)).drop 6 = jA (jG p):=by
 apply List.ext_getElem
 ·rw [vQ,Z8,qan,qdF,qdE];omega
 ·intro i h3 h4;rw [qdF,qdE] at h4;have hk:i / 2 < (jG p).length:=by rw [qdE];omega
  have qI:=qcy (jG p) (i / 2) hk;rw [qfw hk] at qI;rw [List.getElem_drop]
  have e1:∀ j (hj:j < (qK (jw p)).length),(qK (jw p))[j] = .int .u64 (qC p (8 * j):Nat):=by
   intro j hj;simp [qK,jw]
  rw [e1]
  have hd:∀ {l r:List D} {j:Nat} {x y:D} (_:l.drop j = x :: y :: r),l[j]? = some x∧l[j+1]? = some y:=by
   intro l r j x y h;have h5:=congrArg (fun l=>l[0]?) h;have h6:=congrArg (fun l=>l[1]?) h;simp only [Qv,Nat.add_zero,Z1,qdv] at h5 h6;exact ⟨h5,h6⟩
  obtain ⟨g1,g2⟩:=hd qI;rcases Nat.mod_two_eq_zero_or_one i with hm | hm
  ·have hi:2 * (i / 2) = i:=(by omega);rw [hi] at g1;rw [(List.getElem?_eq_some_iff.1 g1).2,show 8 * (6+i) = 48+16 * (i / 2) by omega]
  ·have hi:2 * (i / 2)+1 = i:=(by omega);rw [hi] at g2;rw [(List.getElem?_eq_some_iff.1 g2).2,show 8 * (6+i) = 56+16 * (i / 2) by omega]
theorem qwU {p:List UInt8} (h1:48 < p.length) (h2:(p.length - 48) % 16 = 0):∃ x3 x4:D,qK (jw p) = .int .u64 (qC p 0:Nat) :: .int .u64 (qC p 8:Nat) :: .int .u64 (qC p 16:Nat) :: x3 :: x4 :: .int .u64 (qC p 40:Nat) :: jA (jG p):=by
 rw [← qwT (by omega) h2];have hl:(qK (jw p)).length = p.length / 8:=by rw [Z8,qan]
 have hg:∀ j,j < p.length / 8→(qK (jw p)).drop j = .int .u64 (qC p (8 * j):Nat) :: (qK (jw p)).drop (j+1):=by
  intro j hj;rw [zU (by rw [hl];exact hj)];simp [qK,jw]
 refine ⟨.int .u64 (qC p 24:Nat),.int .u64 (qC p 32:Nat),?_⟩;have g0:=hg 0 (by omega);rw [List.drop_zero] at g0;rw [← hg 5 (by omega),← hg 4 (by omega),← hg 3 (by omega),← hg 2 (by omega),← hg 1 (by omega)];exact g0
set_option maxHeartbeats 4000000 in
set_option maxRecDepth 8000 in
theorem q0Y [MaxL] [TxtC] (s:Sl UInt8) (hl:s.l.length≤1000000) (a:Nat) (ha:a < 18446744073709551616):call cx 243 [(.vsl s.nil (qd s.l) s.l.length),.int .u64 a] [] = some (.tup [qdP s.l a,.int .i64 (kC s.l a:Nat)],[]):=by
 have hb:call cx 237 [(.vsl s.nil (qd s.l) s.l.length),.int .u64 a,.int .i64 3,.int .i64 48,.int .i64 16] [] = some (.tup [Zz s.l a 3 48 16,.int .i64 (vD s.l a 3 48 16)],[]):=qsb s hl a ha 3 48 16 (by omega) (by omega) (by omega);refine qy Tryz.func243 rfl ⟨rfl,rfl⟩ ?_;by_cases h0:vD s.l a 3 48 16≠0
 ·have hC:kC s.l a = vD s.l a 3 48 16:=by unfold kC;rw [if_pos h0]
  have hB:Zz s.l a 3 48 16 = .vsl true [] 0:=by unfold Zz;rw [if_neg h0]
  have hD:qdP s.l a = .agg vI:=by unfold qdP;rw [hC,if_neg h0]
  have qM:(((vD s.l a 3 48 16:Nat):Int) != 0) = true:=kr;rw [hD,hC];rw [hB] at hb;generalize vD s.l a 3 48 16 = C at *;simp [Tryz.f243,hb,qM,vI]
 have qM:vD s.l a 3 48 16 = 0:=by omega
 have hB:Zz s.l a 3 48 16 = .vsl false (qd (qB s.l a)) (qB s.l a).length:=by unfold Zz;rw [if_pos qM]
 have hf:jq s.l a = 0∧64 < vz s.l a∧(vz s.l a - 64) % 16 = 0:=by
  unfold vD at qM;split at qM
  · omega
  split at qM
  · omega
  split at qM
  · omega
  omega
 have jM:=qdn hf.1;have hfm:=qaK hf.1;rw [hB,qM] at hb;unfold qdP;have hEC:kC s.l a = if qC (qB s.l a) 0 = 0 then 13 else if Kk (jG (qB s.l a)) then 0 else 11:=by unfold kC;rw [if_neg h0]
 rw [hEC];have hpl:48 < (qB s.l a).length∧((qB s.l a).length - 48) % 16 = 0∧(qB s.l a).length % 8 = 0∧(qB s.l a).length≤1000000:=by omega
 obtain ⟨p,hp⟩:=ql (qB s.l a);rw [hp] at hb hpl ⊢;have jB:=qrT (Sl.mk false p (by simp)) hpl.2.2.2 hpl.2.2.1;unfold qdC at jB;have hnz:¬ p.length = 0:=by omega
 simp only [hnz,decide_false] at jB;obtain ⟨x3,x4,hU⟩:=qwU (p:=p) hpl.1 hpl.2.1;have Vn:(jw p).length = p.length / 8:=qan p;simp only [qaM];obtain ⟨c0,c1,c2,c3,c4,c5,c6,c7,c8,c9,c10,c11,c12,c13,c14,c15,hB⟩:=qgJ ((p.drop 24).take 16) (by simp;omega);have hbt:List.take 16 (List.drop 24 (qd p)) = qd [c0,c1,c2,c3,c4,c5,c6,c7,c8,c9,c10,c11,c12,c13,c14,c15]:=by rw [Yw,Yv,hB]
 rw [hB];have qb3:qd [c0,c1,c2,c3,c4,c5,c6,c7,c8,c9,c10,c11,c12,c13,c14,c15] = (JY c0 c1 c2 c3 c4 c5 c6 c7 c8 c9 c10 c11 c12 c13 c14 c15 []):=rfl;rw [qb3] at hbt ⊢;have c40:(40:Int)≤(p.length:Int):=by omega
 have q0:0 < p.length / 8:=by omega
 have q1:1 < p.length / 8:=by omega
 have q2:2 < p.length / 8:=by omega
 have q5:5 < p.length / 8:=by omega
 have q0':(0:Int) < ((p.length / 8:Nat):Int):=by omega
 have q1':(1:Int) < ((p.length / 8:Nat):Int):=by omega
 have q2':(2:Int) < ((p.length / 8:Nat):Int):=by omega
 have q5':(5:Int) < ((p.length / 8:Nat):Int):=by omega
 rw [Vn,hU] at jB;have hIl:=qdE p;have hIt:=fun {k} h=>qqr (x:=p) (k:=k) h;have hIg:=fun {k} h=>qfw (x:=p) (k:=k) h;obtain ⟨M,hM⟩:=ql (p.length / 8);rw [hM] at jB q0 q1 q2 q5 q0' q1' q2' q5';obtain ⟨I,hI⟩:=ql (jG p);rw [hI] at hIl hIt hIg jB ⊢;have hMn:M = 6+2 * I.length:=by omega
 obtain ⟨s0,XI⟩:=ql (qC p 0);obtain ⟨s1,QJ⟩:=ql (qC p 8);obtain ⟨s2,kN⟩:=ql (qC p 16);obtain ⟨s5,XH⟩:=ql (qC p 40);rw [XI,QJ,kN,XH] at jB;rw [XI,QJ,kN,XH];simp [Tryz.f243,hb,jB,q0,q1',q2',q5',c40,hbt,zM];clear jB hb q0 q1 q2 q5 q0' q1' q2' q5' hIt XI QJ kN XH hU;have hIf:=qdG I
 refine Run.loopThen (fun (k:Nat) e H=>k≤I.length∧qi e 4 = some (.optr 0 21 0)∧qi e 9 = some (.optr 1 21 0)∧qi e 8 = some (.vsl false (.int .u64 (s0:Nat) :: .int .u64 (s1:Nat) :: .int .u64 (s2:Nat) :: x3 :: x4 :: .int .u64 (s5:Nat) :: jA I) M)∧qi e 10 = some (.int .i64 ((6+2 * k:Nat):Int)) ∧
   ((k = 0∧H = [some vI,some (.int .u64 (s0:Nat) :: .int .u64 (s1:Nat) :: .int .u64 (s2:Nat) :: ((JY c0 c1 c2 c3 c4 c5 c6 c7 c8 c9 c10 c11 c12 c13 c14 c15 []) ++ [.int .u64 (s5:Nat),.vsl true [] 0]))]) ∨
   (0 < k∧H = [some vI,some (.int .u64 (s0:Nat) :: .int .u64 (s1:Nat) :: .int .u64 (s2:Nat) :: ((JY c0 c1 c2 c3 c4 c5 c6 c7 c8 c9 c10 c11 c12 c13 c14 c15 []) ++ [.int .u64 (s5:Nat),.osl 2 (2 * k) 0 k 2])),some (jA (I.take k))]))) (fun k=>I.length - k) 0 ?_ ?_
 ·exact ⟨by omega,by simp,by simp,by simp,by simp,.inl ⟨rfl,by simp [vI]⟩⟩
 rintro k e H ⟨hk,k4,k9,k8,k10,hH⟩;obtain ⟨j,hj⟩:∃ j:Nat,6+2 * k = j:=⟨_,rfl⟩;rw [hj] at k10;by_cases qg:k < I.length
 ·have hjM:j < M:=by omega
  have Vj:(j:Int) < (M:Int):=by omega
  have hj1M:j+1 < M:=by omega
  have hj1M':(j:Int)+1 < (M:Int):=by omega
  have jb:=qx ((j:Int)+1) ((j:Int)+1);have qZ:=qx ((j:Int)+2) ((j+2:Nat):Int);have hj1n:((j:Int)+1).toNat = j+1:=by omega
  have hj10:¬ (j:Int)+1 < 0:=by omega
  have hj11:(0:Int)≤(j:Int)+1:=by omega
  have qI:=qcy I k qg
  have hdj:List.drop j (.int .u64 (s0:Nat) :: .int .u64 (s1:Nat) :: .int .u64 (s2:Nat) :: x3 :: x4 :: .int .u64 (s5:Nat) :: jA I) = .int .u64 ((I[k]).1:Nat) :: .int .u64 ((I[k]).2:Nat) :: (jA I).drop (2 * k+2):=by
   rw [← hj,show 6+2 * k = 2 * k+6 by omega];simpa using qI
  have hdj1:List.drop (j+1) (.int .u64 (s0:Nat) :: .int .u64 (s1:Nat) :: .int .u64 (s2:Nat) :: x3 :: x4 :: .int .u64 (s5:Nat) :: jA I) = .int .u64 ((I[k]).2:Nat) :: (jA I).drop (2 * k+2):=by
   have:=congrArg (List.drop 1) hdj;rw [jV] at this;simpa using this
  have hsn:jA (I.take (k+1)) = jA (I.take k) ++ [.int .u64 ((I[k]).1:Nat),.int .u64 ((I[k]).2:Nat)]:=by
   rw [VV qg,qju];rfl
  have hfk:=qdG (I.take k);have hfkL:=Z3 hfk;have j6:(jA (I.take k)).length = 2 * k:=by rw [qdF,jU];omega
  generalize (I[k]).1 = y1 at *;generalize (I[k]).2 = y2 at *;rcases hH with ⟨rfl,rfl⟩ | ⟨j7,rfl⟩
  ·simp [k4,k8,k9,k10,Vj,hj1M',jb,qZ,hj1n,hj11,hdj,hdj1,qD,vI];exact ⟨1,by omega,by omega,by omega,by omega,⟨rfl,rfl⟩,by simpa [jA] using hsn.symm⟩
  ·have qQ:¬ k = 0:=(by omega);have Zt:(k+1) * 16≤140737488355328:=(by omega);have YC:k+1≤140737488355328:=(by omega);have YR:k * 2 = 2 * k:=(by omega);simp [k4,k8,k9,k10,Vj,hj1M',jb,qZ,hj1n,hj11,hdj,hdj1,qD,vI,j6,Zt,YC,YR,hfkL];exact ⟨k+1,by omega,by omega,by omega,by omega,⟨by omega,rfl⟩,hsn.symm⟩
 ·have hjM:¬ j < M:=by omega
  have Vj:¬ (j:Int) < (M:Int):=by omega
  have hkn:k = I.length:=by omega
  subst hkn;have Qr:0 < I.length:=by omega
  rcases hH with ⟨h0,rfl⟩ | ⟨j7,rfl⟩
  ·omega
  rw [List.take_length];by_cases hz:s0 = 0
  ·subst hz;simp [k4,k8,k9,k10,Vj,vI]
  have hz':¬ (s0:Int) = 0:=by omega
  have hIL:=Z3 hIf;have hIn:=qdF I;simp [k4,k8,k9,k10,Vj,hz,vI]
  refine Run.loopThen (fun (i:Nat) e H=>1≤i∧i≤I.length∧qi e 4 = some (.optr 0 21 0)∧qi e 9 = some (.optr 1 21 0)∧qi e 11 = some (.int .i64 (i:Int))∧(∀ j (h:j+1 < I.length),j+1 < i→(I[j]).1 < (I[j+1]).1) ∧
   H = [some vI,some (.int .u64 (s0:Nat)::.int .u64 (s1:Nat)::.int .u64 (s2:Nat)::JY c0 c1 c2 c3 c4 c5 c6 c7 c8 c9 c10 c11 c12 c13 c14 c15 [.int .u64 (s5:Nat),.osl 2 (2 * I.length) 0 I.length 2]),some (jA I)]) (fun i=>I.length - i) 1 ?_ ?_
  ·exact ⟨by omega,by omega,by simp,by simp,by simp,fun j _ h=>by omega,by simp [vI]⟩
  rintro i e H ⟨hi1,hi,r4,r9,r11,hR,rfl⟩;by_cases Vg:i < I.length
  ·obtain ⟨m,rfl⟩:∃ m,i = m+1:=⟨i - 1,by omega⟩;have hlt2':(m:Int)+1 < (I.length:Int):=(by omega);have hm:m < I.length:=(by omega);have hm':(m:Int) < (I.length:Int):=(by omega);have Zf:=qx ((m:Int)+1 - 1) (m:Int);have hw3':=qx (m:Int) (m:Int);have ZW:=qx ((m:Int)+1+1) ((m+1+1:Nat):Int);have a1:=qcy I (m+1) Vg;have a2:=qcy I m hm;rw [Nat.mul_comm] at a1 a2;have Kv:=hR;have h0m:(0:Int)≤(m:Int)+1:=(by omega);have hmn:¬ (m:Int)+1 < 0:=(by omega);have hmt:((m:Int)+1).toNat = m+1:=by omega
   have hR2:(I[m]).1 < (I[m+1]).1→∀ j (h:j+1 < I.length),j+1 < m+1+1→(I[j]).1 < (I[j+1]).1:=by
    intro hlt3 j QV YD;by_cases hjm:j = m
    ·subst hjm;exact hlt3
    ·exact hR j QV (by omega)
   have hR3:¬ (I[m]).1 < (I[m+1]).1→Kk I = false:=by
    intro hn;cases hh:Kk I with
    | false=>rfl
    | true=>exact absurd ((qfb I).1 hh m Vg) hn
   generalize (I[m]).1 = y0 at *;generalize (I[m+1]).1 = y1 at *;by_cases jx:y0 < y1
   ·have Vh:¬ (y1:Int)≤(y0:Int):=(by omega);simp [r4,r9,r11,hlt2',hm',hw3',ZW,a1,a2,h0m,hmt,hIn,Vh,vI];exact ⟨m+1+1,by omega,by omega,by omega,by omega,hR2 jx⟩
   ·have Vh:(y1:Int)≤(y0:Int):=(by omega);have Zr:=hR3 jx;simp [r4,r9,r11,hlt2',hm',hw3',a1,a2,h0m,hmt,hIn,Vh,Zr,vI]
  ·have hlt2':=zL Vg;have hr:Kk I = true:=(qfb I).2 fun j hj=>hR j hj (by omega);have ht:List.take (I.length * 2) (jA I) = jA I:=qP (by omega);have hIn0:¬ I.length = 0:=(by omega);have h2n:I.length * 2≤2 * I.length:=(by omega);simp [r4,r9,r11,hlt2',hr,hIn,hIL,ht,h2n,vI]
end Go.Ev.S
namespace Go.Proofs
open Go.Shelf
def Tryz.laysM316_ren:Go.Shelf.Ren:=⟨fun | 316=>197 | n=>n,fun | 9=>9 | 3=>3 | 4=>4 | 37=>29 | 0=>0 | 127=>286 | 5=>5 | n=>n,fun | n=>n⟩
theorem Tryz.laysM316:Go.Proofs.LaysM.n316 Tryz.prog Tryz.laysM316_ren:={
 mixed:=by kernel_rfl
 f316:=Tryz.func197.trans (congrArg some (by kernel_rfl))
 t0:=Tryz.underlying0
 a0:=Tryz.isAgg0
 z0:=Tryz.sizeOf0
 v0:=Tryz.zeroValue0
 t3:=Tryz.underlying3
 a3:=Tryz.isAgg3
 z3:=Tryz.sizeOf3
 v3:=Tryz.zeroValue3
 t4:=Tryz.underlying4
 a4:=Tryz.isAgg4
 z4:=Tryz.sizeOf4
 v4:=Tryz.zeroValue4
 t9:=Tryz.underlying9
 a9:=Tryz.isAgg9
 z9:=Tryz.sizeOf9
 v9:=Tryz.zeroValue9
 t37:=Tryz.underlying29
 a37:=Tryz.isAgg29
 z37:=Tryz.sizeOf29
 v37:=Tryz.zeroValue29
 t127:=Tryz.underlying286
 a127:=Tryz.isAgg286
 z127:=Tryz.sizeOf286
 v127:=Tryz.zeroValue286
 t5:=Tryz.underlying5
 a5:=Tryz.isAgg5
 z5:=Tryz.sizeOf5
 v5:=Tryz.zeroValue5
 i0:=by kernel_rfl
 i3:=by kernel_rfl
 i4:=by kernel_rfl
 i5:=by kernel_rfl
 i9:=by kernel_rfl
 i37:=by kernel_rfl
 i127:=by kernel_rfl }
def Tryz.lays219_ren:Go.Shelf.Ren:=⟨fun | 219=>142 | 217=>101 | 225=>194 | 224=>195 | 267=>196 | 266=>143 | 314=>233 | n=>n,fun | 9=>9 | 3=>3 | 4=>4 | 5=>5 | 46=>140 | 146=>282 | 51=>130 | n=>n,fun | 1=>0 | n=>n⟩
theorem Tryz.lays219:Go.Proofs.Lays.n219 Tryz.prog Tryz.lays219_ren:={
 mixed:=by kernel_rfl
 f217:=Tryz.func101.trans (congrArg some (by kernel_rfl))
 f219:=Tryz.func142.trans (congrArg some (by kernel_rfl))
 f224:=Tryz.func195.trans (congrArg some (by kernel_rfl))
 f225:=Tryz.func194.trans (congrArg some (by kernel_rfl))
 f266:=Tryz.func143.trans (congrArg some (by kernel_rfl))
 f267:=Tryz.func196.trans (congrArg some (by kernel_rfl))
 f314:=Tryz.func233.trans (congrArg some (by kernel_rfl))
 t3:=Tryz.underlying3
 a3:=Tryz.isAgg3
 z3:=Tryz.sizeOf3
 v3:=Tryz.zeroValue3
 t4:=Tryz.underlying4
 a4:=Tryz.isAgg4
 z4:=Tryz.sizeOf4
 v4:=Tryz.zeroValue4
 t5:=Tryz.underlying5
 a5:=Tryz.isAgg5
 z5:=Tryz.sizeOf5
 v5:=Tryz.zeroValue5
 t9:=Tryz.underlying9
 a9:=Tryz.isAgg9
 z9:=Tryz.sizeOf9
 v9:=Tryz.zeroValue9
 t46:=Tryz.underlying140
 a46:=Tryz.isAgg140
 z46:=Tryz.sizeOf140
 v46:=Tryz.zeroValue140
 t51:=Tryz.underlying130
 a51:=Tryz.isAgg130
 z51:=Tryz.sizeOf130
 v51:=Tryz.zeroValue130
 t146:=Tryz.underlying282
 a146:=Tryz.isAgg282
 z146:=Tryz.sizeOf282
 v146:=Tryz.zeroValue282
 g1:=by kernel_rfl }
def Tryz.lays105_ren:Go.Shelf.Ren:=⟨fun | 105=>78 | 212=>118 | 99=>119 | 165=>120 | 166=>121 | 170=>122 | 169=>123 | 263=>178 | 264=>179 | 206=>97 | 240=>180 | 241=>181 | 276=>225 | 277=>226 | n=>n,fun | 9=>9 | 3=>3 | 4=>4 | 20=>20 | 0=>0 | 46=>140 | 109=>219 | 5=>5 | 72=>223 | 76=>225 | 51=>130 | 146=>282 | 53=>24 | 148=>284 | 70=>221 | 37=>29 | 75=>142 | 127=>286 | 164=>324 | 80=>227 | n=>n,fun | n=>n⟩
theorem Tryz.lays105:Go.Proofs.Lays.n105 Tryz.prog Tryz.lays105_ren:={
 mixed:=by kernel_rfl
 f99:=Tryz.func119.trans (congrArg some (by kernel_rfl))
 f105:=Tryz.func78.trans (congrArg some (by kernel_rfl))
 f165:=Tryz.func120.trans (congrArg some (by kernel_rfl))
 f166:=Tryz.func121.trans (congrArg some (by kernel_rfl))
 f169:=Tryz.func123.trans (congrArg some (by kernel_rfl))
 f170:=Tryz.func122.trans (congrArg some (by kernel_rfl))
 f206:=Tryz.func97.trans (congrArg some (by kernel_rfl))
 f212:=Tryz.func118.trans (congrArg some (by kernel_rfl))
 f240:=Tryz.func180.trans (congrArg some (by kernel_rfl))
 f241:=Tryz.func181.trans (congrArg some (by kernel_rfl))
 f263:=Tryz.func178.trans (congrArg some (by kernel_rfl))
 f264:=Tryz.func179.trans (congrArg some (by kernel_rfl))
 f276:=Tryz.func225.trans (congrArg some (by kernel_rfl))
 f277:=Tryz.func226.trans (congrArg some (by kernel_rfl))
 t0:=Tryz.underlying0
 a0:=Tryz.isAgg0
 z0:=Tryz.sizeOf0
 v0:=Tryz.zeroValue0
 t3:=Tryz.underlying3
 a3:=Tryz.isAgg3
 z3:=Tryz.sizeOf3
 v3:=Tryz.zeroValue3
 t4:=Tryz.underlying4
 a4:=Tryz.isAgg4
 z4:=Tryz.sizeOf4
 v4:=Tryz.zeroValue4
 t5:=Tryz.underlying5
 a5:=Tryz.isAgg5
 z5:=Tryz.sizeOf5
 v5:=Tryz.zeroValue5
 t9:=Tryz.underlying9
 a9:=Tryz.isAgg9
 z9:=Tryz.sizeOf9
 v9:=Tryz.zeroValue9
 t20:=Tryz.underlying20
 a20:=Tryz.isAgg20
 z20:=Tryz.sizeOf20
 v20:=Tryz.zeroValue20
 t37:=Tryz.underlying29
 a37:=Tryz.isAgg29
 z37:=Tryz.sizeOf29
 v37:=Tryz.zeroValue29
 t46:=Tryz.underlying140
 a46:=Tryz.isAgg140
 z46:=Tryz.sizeOf140
 v46:=Tryz.zeroValue140
 t51:=Tryz.underlying130
 a51:=Tryz.isAgg130
 z51:=Tryz.sizeOf130
 v51:=Tryz.zeroValue130
 t53:=Tryz.underlying24
 a53:=Tryz.isAgg24
 z53:=Tryz.sizeOf24
 v53:=Tryz.zeroValue24
 t70:=Tryz.underlying221
 a70:=Tryz.isAgg221
 z70:=Tryz.sizeOf221
 v70:=Tryz.zeroValue221
 t72:=Tryz.underlying223
 a72:=Tryz.isAgg223
 z72:=Tryz.sizeOf223
 v72:=Tryz.zeroValue223
 t75:=Tryz.underlying142
 a75:=Tryz.isAgg142
 z75:=Tryz.sizeOf142
 v75:=Tryz.zeroValue142
 t76:=Tryz.underlying225
 a76:=Tryz.isAgg225
 z76:=Tryz.sizeOf225
 v76:=Tryz.zeroValue225
 t109:=Tryz.underlying219
 a109:=Tryz.isAgg219
 z109:=Tryz.sizeOf219
 v109:=Tryz.zeroValue219
 t127:=Tryz.underlying286
 a127:=Tryz.isAgg286
 z127:=Tryz.sizeOf286
 v127:=Tryz.zeroValue286
 t146:=Tryz.underlying282
 a146:=Tryz.isAgg282
 z146:=Tryz.sizeOf282
 v146:=Tryz.zeroValue282
 t148:=Tryz.underlying284
 a148:=Tryz.isAgg284
 z148:=Tryz.sizeOf284
 v148:=Tryz.zeroValue284
 t164:=Tryz.underlying324
 a164:=Tryz.isAgg324
 z164:=Tryz.sizeOf324
 v164:=Tryz.zeroValue324 }
theorem Tryz.Builder_Extra_105:Builder.Extra Tryz.prog Tryz.lays105_ren:={
 sizeBuilder:=by kernel_rfl
 liesBuilder:=by kernel_rfl
 t5:=Tryz.underlying5
 a5:=Tryz.isAgg5
 z5:=Tryz.sizeOf5
 v5:=Tryz.zeroValue5
 infoByte:=by kernel_rfl
 cellsByte:=by kernel_rfl
 sizeByte:=by kernel_rfl
 neB5:=by decide }
def Tryz.laysN54_ren:Go.Shelf.Ren:=⟨fun | 54=>70 | 64=>105 | 65=>104 | 78=>159 | 79=>160 | 80=>150 | 81=>151 | 82=>152 | 83=>153 | 84=>154 | 85=>155 | 61=>156 | 86=>157 | 87=>158 | 93=>200 | 89=>201 | 90=>202 | 94=>203 | 95=>204 | 69=>205 | 97=>235 | n=>n,fun | 25=>28 | 26=>9 | 3=>3 | 51=>140 | 0=>0 | 67=>130 | 69=>24 | 4=>4 | 61=>253 | 60=>252 | 44=>257 | 5=>5 | 9=>9 | 75=>301 | 79=>304 | 83=>345 | 84=>120 | n=>n,fun n=>n⟩
set_option maxRecDepth 100000 in
theorem Tryz.laysN54:SlLaysN.n54 Tryz.prog Tryz.laysN54_ren:={
 mixed:=by kernel_rfl
 f54 := ⟨"slices.Sort[[]string,string]", by decide, Tryz.func70.trans (congrArg some (by kernel_rfl))⟩
 f61 := ⟨"cmp.Less[string]", by decide, Tryz.func156.trans (congrArg some (by kernel_rfl))⟩
 f64:=Tryz.func105.trans (congrArg some (by kernel_rfl))
 f65 := ⟨"slices.pdqsortOrdered[string]", by decide, Tryz.func104.trans (congrArg some (by kernel_rfl))⟩
 f69 := ⟨"cmp.isNaN[string]", by decide, Tryz.func205.trans (congrArg some (by kernel_rfl))⟩
 f78:=Tryz.func159.trans (congrArg some (by kernel_rfl))
 f79:=Tryz.func160.trans (congrArg some (by kernel_rfl))
 f80 := ⟨"slices.insertionSortOrdered[string]", by decide, Tryz.func150.trans (congrArg some (by kernel_rfl))⟩
 f81 := ⟨"slices.heapSortOrdered[string]", by decide, Tryz.func151.trans (congrArg some (by kernel_rfl))⟩
 f82 := ⟨"slices.breakPatternsOrdered[string]", by decide, Tryz.func152.trans (congrArg some (by kernel_rfl))⟩
 f83 := ⟨"slices.choosePivotOrdered[string]", by decide, Tryz.func153.trans (congrArg some (by kernel_rfl))⟩
 f84 := ⟨"slices.reverseRangeOrdered[string]", by decide, Tryz.func154.trans (congrArg some (by kernel_rfl))⟩
 f85 := ⟨"slices.partialInsertionSortOrdered[string]", by decide, Tryz.func155.trans (congrArg some (by kernel_rfl))⟩
 f86 := ⟨"slices.partitionEqualOrdered[string]", by decide, Tryz.func157.trans (congrArg some (by kernel_rfl))⟩
 f87 := ⟨"slices.partitionOrdered[string]", by decide, Tryz.func158.trans (congrArg some (by kernel_rfl))⟩
 f89:=Tryz.func201.trans (congrArg some (by kernel_rfl))
 f90:=Tryz.func202.trans (congrArg some (by kernel_rfl))
 f93 := ⟨"slices.siftDownOrdered[string]", by decide, Tryz.func200.trans (congrArg some (by kernel_rfl))⟩
 f94 := ⟨"slices.medianAdjacentOrdered[string]", by decide, Tryz.func203.trans (congrArg some (by kernel_rfl))⟩
 f95 := ⟨"slices.medianOrdered[string]", by decide, Tryz.func204.trans (congrArg some (by kernel_rfl))⟩
 f97 := ⟨"slices.order2Ordered[string]", by decide, Tryz.func235.trans (congrArg some (by kernel_rfl))⟩
 t0:=Tryz.underlying0
 a0:=Tryz.isAgg0
 z0:=Tryz.sizeOf0
 v0:=Tryz.zeroValue0
 t3:=Tryz.underlying3
 a3:=Tryz.isAgg3
 z3:=Tryz.sizeOf3
 v3:=Tryz.zeroValue3
 t4:=Tryz.underlying4
 a4:=Tryz.isAgg4
 z4:=Tryz.sizeOf4
 v4:=Tryz.zeroValue4
 t5:=Tryz.underlying5
 a5:=Tryz.isAgg5
 z5:=Tryz.sizeOf5
 v5:=Tryz.zeroValue5
 t9:=Tryz.underlying9
 a9:=Tryz.isAgg9
 z9:=Tryz.sizeOf9
 v9:=Tryz.zeroValue9
 t25:=Tryz.underlying28
 a25:=Tryz.isAgg28
 z25:=Tryz.sizeOf28
 v25:=Tryz.zeroValue28
 t26:=Tryz.underlying9
 a26:=Tryz.isAgg9
 z26:=Tryz.sizeOf9
 v26:=Tryz.zeroValue9
 t44:=Tryz.underlying257
 a44:=Tryz.isAgg257
 z44:=Tryz.sizeOf257
 v44:=Tryz.zeroValue257
 t51:=Tryz.underlying140
 a51:=Tryz.isAgg140
 z51:=Tryz.sizeOf140
 v51:=Tryz.zeroValue140
 t60:=Tryz.underlying252
 a60:=Tryz.isAgg252
 z60:=Tryz.sizeOf252
 v60:=Tryz.zeroValue252
 t61:=Tryz.underlying253
 a61:=Tryz.isAgg253
 z61:=Tryz.sizeOf253
 v61:=Tryz.zeroValue253
 t67:=Tryz.underlying130
 a67:=Tryz.isAgg130
 z67:=Tryz.sizeOf130
 v67:=Tryz.zeroValue130
 t69:=Tryz.underlying24
 a69:=Tryz.isAgg24
 z69:=Tryz.sizeOf24
 v69:=Tryz.zeroValue24
 t75:=Tryz.underlying301
 a75:=Tryz.isAgg301
 z75:=Tryz.sizeOf301
 v75:=Tryz.zeroValue301
 t79:=Tryz.underlying304
 a79:=Tryz.isAgg304
 z79:=Tryz.sizeOf304
 v79:=Tryz.zeroValue304
 t83:=Tryz.underlying345
 a83:=Tryz.isAgg345
 z83:=Tryz.sizeOf345
 v83:=Tryz.zeroValue345
 t84:=Tryz.underlying120
 a84:=Tryz.isAgg120
 z84:=Tryz.sizeOf120
 v84:=Tryz.zeroValue120 }
end Go.Proofs
namespace Go.Ev.S
open Go Go.Proofs Go.Ev
theorem qwN [MaxL] [TxtC]:Yu cx 0 40 = true:=by kernel_rfl
theorem qwH [MaxL] [TxtC]:Yu cx 40 40 = true:=by kernel_rfl
theorem qwG [MaxL] [TxtC]:Yu cx 80 40 = true:=by kernel_rfl
theorem qwM [MaxL] [TxtC]:Yu cx 120 40 = true:=by kernel_rfl
theorem qwL [MaxL] [TxtC]:Yu cx 160 40 = true:=by kernel_rfl
theorem qwK [MaxL] [TxtC]:Yu cx 200 40 = true:=by kernel_rfl
theorem qwJ [MaxL] [TxtC]:Yu cx 240 40 = true:=by kernel_rfl
theorem qwI [MaxL] [TxtC]:Yu cx 280 28 = true:=by kernel_rfl
theorem qrs:Tryz.prog.funcs.size = 308:=by kernel_rfl
theorem qsV [MaxL] [TxtC] (f:Nat) (h:f < 308):qfp cx f = true:=by
 rcases qaa f 40 with h0 | h0
 ·exact qbp qwN (by omega) (by omega)
 rcases qaa f 80 with h1 | h1
 ·exact qbp qwH (by omega) (by omega)
 rcases qaa f 120 with h2 | h2
 ·exact qbp qwG (by omega) (by omega)
 rcases qaa f 160 with h3 | h3
 ·exact qbp qwM (by omega) (by omega)
 rcases qaa f 200 with h4 | h4
 ·exact qbp qwL (by omega) (by omega)
 rcases qaa f 240 with h5 | h5
 ·exact qbp qwK (by omega) (by omega)
 rcases qaa f 280 with h6 | h6
 ·exact qbp qwJ (by omega) (by omega)
 exact qbp qwI (by omega) (by omega)
set_option maxHeartbeats 4000000 in
set_option maxRecDepth 100000 in
theorem qf4 [MaxL] [TxtC] (hT:qk0):Good cx where
 mixed:=by kernel_rfl
 okc f fn c hf hc hb:=(qmB (qsV f (by rw [← qrs];exact (Array.getElem?_eq_some_iff.1 hf).1)) hf).2 c hc hb
 ng f fn hf:=(qmB (qsV f (by rw [← qrs];exact (Array.getElem?_eq_some_iff.1 hf).1)) hf).1
 ext f fn args d hf hn h ok w ι H vs hs hv:=by
  by_cases h143:f = 143
  ·subst h143;rw [qrA] at h;have hff:=Tryz.func143;rw [show cx.P.funcs[143]? = Tryz.prog.funcs[143]? from rfl,hff] at hf;injection hf with hf;subst hf;exact qzz (P:=cx.P) hff rfl (by kernel_rfl) (by kernel_rfl) (by kernel_rfl) h hv
  by_cases h141:f = 141
  ·subst h141;rw [qrB] at h;have hff:=Tryz.func141;rw [show cx.P.funcs[141]? = Tryz.prog.funcs[141]? from rfl,hff] at hf;injection hf with hf;subst hf;exact q2b (P:=cx.P) hff rfl (by kernel_rfl) (by kernel_rfl) (by kernel_rfl) h hv
  by_cases h266:f = 266
  ·subst h266;rw [qr9] at h;have hff:=Tryz.func266;rw [show cx.P.funcs[266]? = Tryz.prog.funcs[266]? from rfl,hff] at hf;injection hf with hf;subst hf;exact qzy (P:=cx.P) hff rfl (by kernel_rfl) (by kernel_rfl) (by kernel_rfl) h hv
  ·have:cx.ext f args = none:=by
    show qjI f args = none;unfold qjI;split
    ·exact absurd rfl h143
    ·exact absurd rfl h141
    ·exact absurd rfl h266
    ·rfl
   rw [this] at h;cases h
 con f args H r H' h ok w ι vs hs hv:=by
  by_cases h142:f = 142
  ·subst h142;rw [qsw] at h;exact q1A (X:=cx) (m:=MaxL.m) Tryz.lays219 rfl h hs hv
  by_cases h197:f = 197
  ·subst h197;rw [qsv] at h;exact q1B (X:=cx) Tryz.laysM316 h hs hv
  by_cases h78:f = 78
  ·subst h78;rw [qst] at h;exact q19 (X:=cx) Tryz.lays105 Tryz.Builder_Extra_105 h hs hv
  by_cases h182:f = 182
  ·subst h182;rw [q2a] at h;exact hT (f:=182) h hs hv
  by_cases h70:f = 70
  ·subst h70;rw [qsu] at h;exact q15 (X:=cx) Tryz.laysN54 (Go.Proofs.enters_of rfl rfl rfl) h hs hv
  ·have:cx.con f args H = none:=by
    show qkc f args H = none;unfold qkc;split
    ·exact absurd rfl h142
    ·exact absurd rfl h197
    ·exact absurd rfl h78
    ·exact absurd rfl h182
    ·exact absurd rfl h70
    ·rfl
   rw [this] at h;cases h
theorem q0n [MaxL] [TxtC] {W:World} (h:laidMet Tryz.prog YtgehibgkabhcaaaGreatDoor.Rows.scanSaysRow.laid W) (VD:W.cell? ⟨0,0,none⟩ = some (.int .i64 MaxL.m)):∀ g cs,cx.glob g = some cs→Rep (· < W.heap.size) W jh [] (.vptr cs) (.pointer (some ⟨g,0,none⟩)):=by
 unfold YtgehibgkabhcaaaGreatDoor.Rows.scanSaysRow at h;have t6:=qiB (g:=6) (zs:=gz6) (Lib.tabIs_of_head (g:=6) (t:=363) (e:=5) (n:=32) (k:=.u8) (by kernel_rfl) (by kernel_rfl) (by kernel_rfl) (by kernel_rfl) (by kernel_rfl) (by kernel_rfl) h) (by kernel_rfl);replace h:=h.tail;have t7:=qiB (g:=7) (zs:=gz7) (Lib.tabIs_of_head (g:=7) (t:=364) (e:=5) (n:=64) (k:=.u8) (by kernel_rfl) (by kernel_rfl) (by kernel_rfl) (by kernel_rfl) (by kernel_rfl) (by kernel_rfl) h) (by kernel_rfl);replace h:=h.tail;have t3:=qiB (g:=3) (zs:=gz3) (Lib.tabIs_of_head (g:=3) (t:=131) (e:=24) (n:=20) (k:=.u64) (by kernel_rfl) (by kernel_rfl) (by kernel_rfl) (by kernel_rfl) (by kernel_rfl) (by kernel_rfl) h) (by kernel_rfl);replace h:=h.tail;replace h:=h.tail;have t2 := qlW (g := 2) (text := gs2) (by kernel_rfl) (laid_sentinel (g := 2) (ti := 142) (tp := 342) (te := 344) (ts := 9) h (by kernel_rfl) (by kernel_rfl) Tryz.underlying142 (qrL (base := "errors.errorString") (by decide) (by kernel_rfl) (by kernel_rfl) (by decide)) Tryz.underlying342 Tryz.underlying344 rfl rfl (by kernel_rfl) (by kernel_rfl) (by kernel_rfl));replace h:=h.tail;have t1 := qlW (g := 1) (text := gs1) (by kernel_rfl) (laid_sentinel (g := 1) (ti := 142) (tp := 342) (te := 344) (ts := 9) h (by kernel_rfl) (by kernel_rfl) Tryz.underlying142 (qrL (base := "errors.errorString") (by decide) (by kernel_rfl) (by kernel_rfl) (by decide)) Tryz.underlying342 Tryz.underlying344 rfl rfl (by kernel_rfl) (by kernel_rfl) (by kernel_rfl));replace h:=h.tail;intro g cs hg;have Jc:qjA g = some cs:=hg;unfold qjA at Jc;split at Jc
 ·cases Jc;exact t1
 ·cases Jc;exact t2
 ·cases Jc;exact t3
 ·cases Jc;exact t6
 ·cases Jc;exact t7
 ·cases Jc;exact qvG VD
 ·cases Jc
theorem qxm [MaxL] [TxtC] (n b:Int):call cx 46 [.int .i64 n,.int .i64 b] [] = some (.int .i64 (if b < 1 then 0 else (IntKind.i64.wrap (n.tmod b+b)).tmod b),[]):=by
 refine qy Tryz.func46 rfl ⟨rfl,rfl⟩ ?_;by_cases h1:b < 1
 ·simp [Tryz.f46,h1]
 ·have h2:b≠0:=by omega
  simp [Tryz.f46,h1,h2]
theorem qwX [MaxL] [TxtC] (n:Int) (b:Nat) (hb:1≤b) (kQ:b≤1000000):∃ x:Nat,x < b∧call cx 46 [.int .i64 n,.int .i64 b] [] = some (.int .i64 x,[]):=by
 have h1:n.tmod b < b:=Int.tmod_lt_of_pos _ (by omega)
 have h2:-(b:Int) < n.tmod b:=by
  have:=Int.tmod_lt_of_pos (-n) (show (0:Int) < b by omega);rw [Int.neg_tmod] at this;omega
 have h:=qxm n b;rw [if_neg (by omega)] at h;generalize n.tmod b = x at *;have hw:=qx (x+b) (x+b);rw [hw] at h;have h3:0≤x+b:=by omega
 have h4:=Int.tmod_nonneg (b:Int) h3;have h5:=Int.tmod_lt_of_pos (x+b) (show (0:Int) < b by omega);refine ⟨((x+b).tmod b).toNat,by omega,?_⟩;rw [h];congr 3;omega
def vZ (nil:Bool) (zs:List Int) (k:Nat):List D:=[.vsl nil (Xc .i64 zs) zs.length,.int .i64 k]
theorem qqw {k:IntKind} {l:List Int} {i:Nat} (h:i < l.length):(Xc k l).drop i = .int k l[i] :: Xc k (l.drop (i+1)):=by
 unfold Xc;rw [← List.map_drop,zU h];rfl
@[simp] theorem q6z (k:IntKind) (l:List Int):(Xc k l).length = l.length:=by simp [Xc]
theorem qeY (nil:Bool) (zs:List Int) (k:Nat):(∀ x,x∈vZ nil zs k→idFree x = true) = True:=eq_true (by
 unfold vZ;simp)
theorem qeX (nil:Bool) (zs:List Int) (k:Nat):(vZ nil zs k).length = 2:=rfl
theorem qeZ (nil:Bool) (zs:List Int) (k n:Nat):(∀ x,x∈vZ nil zs k→closed n x = true) = True:=eq_true (by
 unfold vZ;simp)
theorem qxl [MaxL] [TxtC] (nil:Bool) (zs:List Int) (k:Nat):call cx 49 [.optr 0 2 0] [some (vZ nil zs k)] = some (.bool (decide (k < zs.length)),[some (vZ nil zs k)]):=by
 refine qy Tryz.func49 rfl ⟨rfl,rfl⟩ ?_;unfold vZ;by_cases h:k < zs.length
 ·have h':=zI h;simp [Tryz.f49,h,h']
 ·have h':=zL h;simp [Tryz.f49,h,h']
theorem qjb [MaxL] [TxtC] (n b:Int) (hb:1≤b) (kQ:b≤1000000):∃ x:Nat,(x:Int) < b∧call cx 46 [.int .i64 n,.int .i64 b] [] = some (.int .i64 x,[]):=by
 obtain ⟨x,h1,h2⟩:=qwX n b.toNat (by omega) (by omega);rw [show ((b.toNat:Nat):Int) = b by omega] at h2;exact ⟨x,by omega,h2⟩
theorem Jy [MaxL] [TxtC] (nil:Bool) (zs:List Int) (qU:nil = true→zs = []) (hz:zs.length≤1000000) (k:Nat) (b:Int) (hb:1≤b) (kQ:b≤1000000) :
  ∃ x k':Nat,(x:Int) < b∧(k < zs.length→k < k')∧call cx 17 [.optr 0 2 0,.int .i64 b] [some (vZ nil zs k)] = some (.int .i64 x,[some (vZ nil zs k')]):=by
 unfold vZ;by_cases qg:k < zs.length
 ·have vj:nil = false:=by
   cases nil with
   | false=>rfl
   | true=>rw [qU rfl] at qg;simp at qg
  subst vj;have qo:¬ (zs.length:Int)≤(k:Int):=by omega
  have Vg:=zI qg;have hw:=qx ((k:Int)+1) ((k+1:Nat):Int);have qZ:=qx (((k+1:Nat):Int) - 1) (k:Int);have Zf:=qx (k:Int) (k:Int);obtain ⟨x,hx,hn⟩:=qjb zs[k] b hb kQ;refine ⟨x,k+1,hx,fun _=>Nat.lt_succ_self k,?_⟩;refine qy Tryz.func17 rfl ⟨rfl,rfl⟩ ?_;simp [Tryz.f17,qo,hw,Vg,Zf,qqw qg,hn]
 ·have qo:(zs.length:Int)≤(k:Int):=by omega
  refine ⟨0,k,by omega,fun h=>absurd h qg,?_⟩;refine qy Tryz.func17 rfl ⟨rfl,rfl⟩ ?_;simp [Tryz.f17,qo]
def namesL:List (List UInt8):=[[65],[66],[77,69,83,83,65,71,69],[95,80,73,68],[88,95,49],[80,82,73,79,82,73,84,89]]
def valuesL:List (List UInt8):=[[],[48],[49],[50,50],[97,61,98],[111,110,101,10,116,119,111],[0,255],[116,97,98,9,104,101,114,101],[108,111,110,103,32,108,111,110,103,32,108,111,110,103,32,108,111,110,103,32,108,111,110,103,32,108,111,110,103,32,108,111,110,103],[126,127,128]]
def strD (l:List (List UInt8)):List D:=l.map D.str
theorem qkY {l:List (List UInt8)} {i:Nat} (h:i < l.length):(strD l).drop i = .str l[i] :: strD (l.drop (i+1)):=by
 unfold strD;rw [← List.map_drop,zU h];rfl
theorem qxe [MaxL] [TxtC]:call cx 186 [] [] = some (.vsl false (strD namesL) 6,[]):=by
 refine call_some.2 ⟨60,?_⟩;kernel_rfl
theorem qt6 [MaxL] [TxtC]:call cx 187 [] [] = some (.vsl false (strD valuesL) 10,[]):=by
 refine call_some.2 ⟨60,?_⟩;kernel_rfl
def V6 (p:Pr):Bool:=qfm p && (decide (p.name.length≤8) && decide (p.value.length≤36))
theorem qji {p:Pr} (h:V6 p = true):qfm p = true:=by
 unfold V6 at h;rw [jk] at h;exact h.1
theorem qxo {p:Pr} (h:V6 p = true):p.name.length≤8∧p.value.length≤36:=by
 unfold V6 at h;simp only [jk,decide_eq_true_eq] at h;exact h.2
theorem qw4:∀ n∈namesL,∀ v∈valuesL,V6 ⟨n,v⟩ = true:=by decide
set_option maxHeartbeats 1000000 in
theorem qxk [MaxL] [TxtC] (nil:Bool) (zs:List Int) (qU:nil = true→zs = []) (hz:zs.length≤1000000) (k:Nat) :
  ∃ (p:Pr) (k':Nat),V6 p = true∧call cx 129 [.optr 0 2 0] [some (vZ nil zs k)] = some (.agg (Enc.cells p),[some (vZ nil zs k')]):=by
 obtain ⟨x,k1,hx,-,h1⟩:=Jy nil zs qU hz k 6 (by decide) (by decide);obtain ⟨y,k2,hy,-,h2⟩:=Jy nil zs qU hz k1 10 (by decide) (by decide);have hx':x < namesL.length:=by show x < 6;omega
 have hy':y < valuesL.length:=by show y < 10;omega
 have g1:=qxe;have g2:=qt6;refine ⟨⟨namesL[x],valuesL[y]⟩,k2,qw4 _ (v6 hx') _ (v6 hy'),?_⟩;have a1:=qkY hx';have a2:=qkY hy';generalize namesL[x] = n at *;generalize valuesL[y] = v at *;generalize strD namesL = N at *;generalize strD valuesL = V at *;refine qy Tryz.func129 rfl ⟨rfl,rfl⟩ ?_;unfold vZ at h1 h2 ⊢;simp [Tryz.f129,h1,h2,g1,g2,a1,a2,hx,hy,Pr.cells]
def idN (j:Nat):ID:=⟨[94,0,0,0,0,0,0,0,0,0,0,0,0,0,0,UInt8.ofNat j],rfl⟩
theorem qgB [MaxL] [TxtC] (n:Int):∃ j:Nat,j < 5∧call cx 18 [.int .i64 n] [] = some (.agg (qd (idN j).l),[]):=by
 obtain ⟨x,hx,hn⟩:=qjb n 5 (by decide) (by decide);refine ⟨x,by omega,?_⟩;refine qy Tryz.func18 rfl ⟨rfl,rfl⟩ ?_;have h:x = 0∨x = 1∨x = 2∨x = 3∨x = 4:=by omega
 rcases h with rfl | rfl | rfl | rfl | rfl <;> simp [Tryz.f18,hn] <;> rfl
theorem qxq [MaxL] [TxtC] {j:Nat} (hj:j < 5):call cx 18 [.int .i64 j] [] = some (.agg (qd (idN j).l),[]):=by
 have h:j = 0∨j = 1∨j = 2∨j = 3∨j = 4:=by omega
 refine call_some.2 ⟨60,?_⟩;rcases h with rfl | rfl | rfl | rfl | rfl <;> kernel_rfl
def q3x {α:Type} [Enc α] (S:List D) (sz:Nat) (l:List α) (d:D) (H:qe):Prop :=
 (l = []∧d = .vsl true [] 0∧H = [some S])∨(l≠[]∧∃ n k t,n = l.length * sz∧k = l.length∧((d = .osl 2 n 0 k sz∧H = [some S,some t,some (qu l)])∨(d = .osl 1 n 0 k sz∧H = [some S,some (qu l),some t])))
def qsZ (nil:Bool) (zs:List Int) (q:D × qe):Prop:= ∃ (l:List Pr) (k':Nat),1≤l.length∧l.length≤4∧(∀ p∈l,V6 p = true)∧q = (.vsl false (qu l) l.length,[some (vZ nil zs k')])
set_option maxHeartbeats 1000000 in
theorem qxj [MaxL] [TxtC] (nil:Bool) (zs:List Int) (qU:nil = true→zs = []) (hz:zs.length≤1000000) (k:Nat) :
  ∃ q,call cx 83 [.optr 0 2 0,.int .i64 4] [some (vZ nil zs k)] = some q∧qsZ nil zs q:=by
 obtain ⟨x,k1,hx,-,h1⟩:=Jy nil zs qU hz k 4 (by decide) (by decide);refine VR (X:=cx) (f:=83) (args:=[.optr 0 2 0,.int .i64 4]) (H:=[some (vZ nil zs k)]) (qsZ nil zs) Tryz.func83 rfl ⟨rfl,rfl⟩ ?_;have hw:=qx ((x:Int)+1) ((x+1:Nat):Int);have sf:=qeY nil zs;have sl:=qeX nil zs;have sc:=qeZ nil zs;simp [Tryz.f83,h1,sf];refine Run.loopThen (fun (q:List Pr × Nat × Nat) e H'=>q.1.length+q.2.1 = x+1∧(∀ p∈q.1,V6 p = true)∧qi e 0 = some (.optr 0 2 0)∧qi e 6 = some (.int .i64 (q.2.1:Nat))∧∃ d,qi e 5 = some d∧q3x (vZ nil zs q.2.2) 2 q.1 d H') (fun q=>q.2.1) ([],x+1,k1) ?_ ?_
 ·exact ⟨by simp,by simp,by simp,by simp [hw],_,by simp,.inl ⟨rfl,rfl,rfl⟩⟩
 rintro ⟨l,i,k2⟩ e H' ⟨hi,J5,k0,k6,d,k5,hH⟩;simp only at hi J5 k6 hH;obtain ⟨p,k3,hp,h2⟩:=qxk nil zs qU hz k2;rcases hH with ⟨rfl,rfl,rfl⟩ | ⟨qQ,n,m,t,hn,hm,hH⟩
 ·have JR:0 < i:=by simp at hi;omega
  have qZ:IntKind.i64.wrap ((i:Int) - 1) = ((i - 1:Nat):Int):=by rw [wrap_i64] <;> (simp at hi;omega)
  simp [k0,k5,k6,JR,h2,sf,sc,qZ,Pr.cells,qD];exact ⟨[p],i - 1,by omega,by simp at hi ⊢;omega,by simp [hp],rfl,k3,.inr ⟨by simp,2,1,_,rfl,rfl,.inl ⟨rfl,rfl⟩⟩⟩
 ·have kb:(m+1) * 32≤140737488355328:=by omega
  have zJ:m+1≤140737488355328:=by omega
  have j6:l.length = m:=hm.symm;have hkn:m * 2 = n:=by omega
  have jc:List.take n (qu l) = qu l:=qP (by simp;omega);by_cases JR:0 < i
  ·have qZ:=qx ((i:Int) - 1) ((i - 1:Nat):Int);rcases hH with ⟨rfl,rfl⟩ | ⟨rfl,rfl⟩
   all_goals
    simp [k0,k5,k6,JR,h2,sf,sc,qZ,Pr.cells,qD,j6,hkn,kb,zJ];refine ⟨l ++ [p],i - 1,by omega,by simp;omega,fun q hq=>?_,rfl,k3,.inr ⟨by simp,n+2,m+1,_,by simp;omega,by simp [j6],.inr ⟨rfl,by rw [qhm];rfl⟩⟩⟩;rcases List.mem_append.1 hq with h | h
    ·exact J5 q h
    ·rw [List.mem_singleton.1 h];exact hp
  ·have Q9:l.isEmpty = false:=by simpa using qQ
   have J7:1≤l.length:=by
    cases l with
    | nil=>exact absurd rfl qQ
    | cons=>simp
   rcases hH with ⟨rfl,rfl⟩ | ⟨rfl,rfl⟩
   all_goals
    simp [k0,k5,k6,JR,sc,j6,hkn,jc];exact ⟨l,k2,J7,by omega,J5,by rw [j6]⟩
end Go.Ev.S
namespace Go.Ev
open Go Go.Proofs
def VP:Nat→Nat→List UInt8
 | 0,_=>[]
 | n+1,v=>VP n (v / 16) ++ [vU (v % 16)]
theorem qrk:∀ (n:Nat),VP n 0 = List.replicate n 48
 | 0=>rfl
 | n+1=>by
  rw [VP,Nat.zero_div,qrk n,Nat.zero_mod];have:vU 0 = 48:=by decide
  rw [this,List.replicate_succ']
theorem qrm:∀ (f n v:Nat),v < 16 ^ f→1≤f→f≤n→List.replicate (n - (JS f v).length) 48 ++ JS f v = VP n v
 | 0,_,_,_,h,_=>by omega
 | f+1,0,_,_,_,h=>by omega
 | f+1,n+1,v,h,_,hn=>by
  rw [JS,VP];by_cases hv:v < 16
  ·rw [if_pos hv,show v / 16 = 0 by omega,qrk,qeF hv];rfl
  ·rw [if_neg hv]
   have hf:1≤f:=by
    rcases f with _ | f
    ·simp at h;omega
    ·omega
   have ih:=qrm f n (v / 16) (by rw [qdu] at h;omega) hf (by omega)
   have hl:n+1 - (JS f (v / 16) ++ [vU (v % 16)]).length = n - (JS f (v / 16)).length:=by
    rw [zz];simp
   rw [hl,← Qj,ih]
theorem qhf {v:Nat} (h:v < 18446744073709551616):kc v = VP 16 v:=qrm 16 16 v (by omega) (by omega) (by omega)
def Zk:List UInt8→Nat→Option Nat
 | [],v=>some v
 | c :: l,v=>if ve c digL 0 < 0 then none else Zk l ((v * 16+(ve c digL 0).toNat) % 18446744073709551616)
theorem qhq (c:UInt8):ve c digL 0 = -1∨∃ k:Nat,k < 16∧ve c digL 0 = (k:Int)∧c = vU k:=by
 have h:∀ n:Nat,n < 256→ve (UInt8.ofNat n) digL 0 = -1∨∃ k:Nat,k < 16∧ve (UInt8.ofNat n) digL 0 = (k:Int)∧UInt8.ofNat n = vU k:=by decide +kernel
 have:=h c.toNat c.toNat_lt
 rwa [UInt8.ofNat_toNat] at this
theorem qis {k:Nat} (hk:k < 16):∀ (l:List UInt8) (v:Nat),Zk (l ++ [vU k]) v = (Zk l v).map fun w=>(w * 16+k) % 18446744073709551616
 | [],v=>by
  have h:=qjW k hk;simp only [Qu,Zk,h];rw [if_neg (by omega)];simp
 | c :: l,v=>by
  simp only [Qw,Zk];split
  ·rfl
  ·exact qis hk l _
theorem qlq:∀ (n v:Nat),n≤16→v < 16 ^ n→Zk (VP n v) 0 = some v
 | 0,v,_,h=>by
  have:v = 0:=by simpa using h
  rw [this];rfl
 | n+1,v,hn,h=>by
  have hp:16 ^ (n+1)≤18446744073709551616:=zT (YZ (by decide) hn) (by decide);rw [VP,qis (by omega),qlq n (v / 16) (by omega) (by rw [qdu] at h;omega),jj];congr 1;omega
theorem qrl:∀ (n:Nat) (l:List UInt8) (v:Nat),n≤16→l.length = n→Zk l 0 = some v→v < 16 ^ n∧VP n v = l
 | 0,l,v,_,hl,h=>by
  have:l = []:=List.length_eq_zero_iff.1 hl;subst this;simp only [Zk,qw] at h;subst h;exact ⟨by decide,rfl⟩
 | n+1,l,v,hn,hl,h=>by
  obtain ⟨r,c,rfl⟩:∃ r c,l = r ++ [c]:=by
   have qQ:l≠[]:=(by intro e;rw [e] at hl;simp at hl);exact ⟨l.dropLast,l.getLast qQ,(List.dropLast_concat_getLast qQ).symm⟩
  have hr:r.length = n:=by simpa using hl
  have hp:16 ^ (n+1)≤18446744073709551616:=zT (YZ (by decide) hn) (by decide)
  have hgo:∀ (r:List UInt8) (v:Nat),(ve c digL 0 = -1)→Zk (r ++ [c]) v = none:=by
   intro r
   induction r with
   | nil =>
    intro v hc;simp only [Qu,Zk,hc];rw [if_pos (by omega)]
   | cons d r ih =>
    intro v hc;simp only [Qw,Zk];split
    ·rfl
    ·exact ih _ hc
  rcases qhq c with hc | ⟨k,hk,hc,rfl⟩
  ·rw [hgo r 0 hc] at h;cases h
  ·rw [qis hk] at h;cases hq:Zk r 0 with
   | none=>rw [hq] at h;cases h
   | some w =>
    rw [hq,jj,qw] at h;obtain ⟨h1,h2⟩:=qrl n r w (by omega) hr hq;have hw:w * 16+k < 16 ^ (n+1):=(by rw [qdu];omega);rw [qeF (by omega)] at h;subst h;refine ⟨hw,?_⟩;rw [VP,show (w * 16+k) / 16 = w by omega,show (w * 16+k) % 16 = k by omega,h2]
def qeg (s:List UInt8):Nat × Bool:=match Zk s 0 with
 | none=>(0,false)
 | some v=>(v,decide (1≤s.length∧s.length≤16))
end Go.Ev
