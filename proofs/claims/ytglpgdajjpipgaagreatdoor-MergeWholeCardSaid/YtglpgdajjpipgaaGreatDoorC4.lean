import Derived.Test.YtglpgdajjpipgaaGreatDoorC3
import Derived.Test.YtglpgdajjpipgaaGreatDoorRows
set_option maxHeartbeats 8000000
set_option maxRecDepth 8000
namespace Go.Ev.S
open Go Go.Proofs Go.Ev
def KG(k:Nat->List Nat)(r:Nat):Option (List Nat×Nat):=some (k r,0)
def KF(l:List (List Nat))(r:Nat):Option (List Nat×Nat):=(l[r]?).map (·,0)
@[simp] def kl3:Nat->List Nat|0|1=>[0,1]|2|4|6=>[0,1,5]|5=>[5]|7|9=>[1,5,6]|10=>[1,5,7,8,9]|11=>[5,7,8,9,10]|13|32|38=>[5,7,10]|14=>[5,7,10,11]|15|16|17=>[5,7,10,11,12]|18=>[5,7,10,11,12,13,14]|20|22|24|28=>[5,7,10,11,12,13]|21|25|27=>[5,7,10,11,12,13,15]|29=>[5,7,11,12,16,17]|31=>[5,7,11,12,16]|33|34|35=>[5,7,10,18]|36=>[5,7,10,18,19,20]|39=>[5,22]|_=>[]
@[simp] def kl5:Nat->List Nat|2=>[2]|_=>[]
@[simp] def kl6:Nat->List Nat|0|1=>[0,1]|3=>[0]|4|5|6=>[0,5]|_=>[]
@[simp] def kl7:Nat->List Nat|0|1=>[0,1]|2|4=>[0,1,5]|5|6|7=>[0,1,5,7]|8=>[0,1,5,7,8]|9|11=>[0,1,5,7,8,9]|10|12=>[0,1,5,7,8,9,10]|13=>[0,1,5,7,8,9,10,11]|14|15=>[0,1,5,7,9,10,11,12]|16=>[5]|_=>[]
@[simp] def kl8:Nat->List Nat|0|1|3=>[0]|4=>[0,5]|5=>[0,5,6]|6|7|15=>[0,5,6,18,19,20]|8|13=>[0,5,6,8,18,19,20]|9=>[0,5,6,8,9,10,18,19,20]|10=>[0,5,6,8,9,18,19,20]|11=>[0,5,6,8,9,11,18,19,20]|12=>[0,5,6,8,9,13,14,18,19,20]|14=>[0,5,6,8,9,13,18,19,20]|16=>[5,6]|_=>[]
@[simp] def kl9:Nat->List Nat|0|1=>[0]|2=>[3]|3=>[3,4]|4|5|6|7=>[3,4,5]|8=>[4]|_=>[]
@[simp] def qsv:Nat->List Nat|0|1|3=>[0,1,2]|4=>[1,2,7]|5|6=>[1,2,7,8]|7=>[1,2,7,8,9,10]|8|9=>[1,2,7,8,9]|10=>[8]|_=>[]
@[simp] def qsn:Nat->List Nat|0=>[0,1]|1=>[0,3,4]|2|3|4=>[0,3,4,6]|5=>[0,4,6]|6=>[3,4]|_=>[]
def q1k:=KF [[0,1],[0,3],[],[0,3],[0,3,7],[],[0,3],[0,3,8],[0,9],[0,3,8,9,10],[0,9,10],[0,3,8,9,10],[0,3,8,9,10,11],[0,3,8,10,11],[0,3,8,9,10,11],[0,3,8,9,10,11],[0,3,8,9,10],[3,8,9],[3,8],[8]]
@[simp] def qrS:Nat->List Nat|0=>[0]|1=>[0,2]|_=>[]
@[simp] def qrM:Nat->List Nat|0=>[0,1]|1|3=>[0,1,4]|2=>[4]|_=>[]
@[simp] def qrJ:Nat->List Nat|0|1=>[0]|2=>[0,3]|3|4|7=>[0,3,9,10,11]|5|6=>[0,3,5,9,10,11]|8|9=>[3]|_=>[]
@[simp] def qrE:Nat->List Nat|0|1=>[0,1]|2=>[6,7]|3=>[7]|4=>[6]|_=>[]
@[simp] def qr5:Nat->List Nat|0|1|3=>[0,1]|_=>[]
@[simp] def qrv:Nat->List Nat|0=>[0]|1|7|9|10=>[1]|2|4|6|8=>[1,4]|_=>[]
@[simp] def qrp:Nat->List Nat|0|1|9|12=>[0,1]|2=>[0,1,6]|3|5=>[0,1,6,7]|6=>[6]|7=>[0,1,7]|10=>[0,1,9]|11=>[9]|13|14=>[0,10]|_=>[]
def q1g:=KF [[0,1,2,3],[0,1,2,3],[0,2,3,9,10],[10],[0,2,3,9],[0,2,3,9,11],[0,9,11,12],[12],[0,9,11],[0,9,11,13],[0,9,11,13,15],[],[0,9,11],[9,11,16],[16],[9,11],[]]
@[simp] def qqS:Nat->List Nat|0=>[0]|1|8=>[1]|2|4|6|7=>[1,5]|9=>[1,3]|10|11=>[3]|_=>[]
@[simp] def qqL:Nat->List Nat|0=>[0]|1=>[0,2]|2=>[0,2,3]|3=>[2,3]|_=>[]
@[simp] def qqJ:Nat->List Nat|0|1|3|4=>[0,1]|_=>[]
@[simp] def qqF:Nat->List Nat|0|1=>[0,1]|2=>[0,1,6]|3=>[0,1,7]|4|5=>[0,1,7,8]|6|8=>[0,1,7,8,9]|7=>[0,1,7,8,9,11]|9=>[7,8]|_=>[]
@[simp] def qq8:Nat->List Nat|0|1=>[0,1,2]|2=>[1,2,7]|3|4|5=>[1,2,7,8]|6=>[1,2,7,8,9]|7=>[7]|_=>[]
@[simp] def qq1:Nat->List Nat|0|1=>[0,1]|2=>[0,1,5]|3|4=>[0,5]|_=>[]
@[simp] def qqv:Nat->List Nat|0|1=>[0]|_=>[]
@[simp] def qqo:Nat->List Nat|0=>[0]|1=>[0,2]|2|4|6|7|8|15=>[0,2,4]|3|5|11|16=>[2]|9=>[0,2,4,5]|10|12|13|14=>[0,2,4,6]|17=>[2,4]|_=>[]
@[simp] def qqn:Nat->List Nat|0|1=>[0]|2=>[4,5]|3=>[5]|4=>[4]|5=>[4,6]|6=>[6]|_=>[]
@[simp] def qqm:Nat->List Nat|0|1|3=>[0]|4|5|6=>[0,3]|_=>[]
@[simp] def qql:Nat->List Nat|0|1=>[0]|2=>[0,3]|3|4|18=>[3,15,16,17]|5=>[3,5,15,16,17]|6|8=>[3,5,6,15,16,17]|7|9|10=>[3,5,6,7,15,16,17]|11=>[3,5,6,8,15,16,17]|12=>[3,5,8,15,16,17]|13|14|17=>[3,5,8,15,16,17,52,53,54]|15=>[3,5,8,10,15,16,17,52,53,54]|16=>[3,5,8,10,11,15,16,17,52,53,54]|19|26=>[3]|20|21|25=>[3,85,86]|22=>[3,13,85,86]|23|24=>[3,14,85,86]|_=>[]
@[simp] def qqk:Nat->List Nat|0=>[0,1]|1=>[0,1,4]|2=>[0,1,4,6]|3|4|9=>[1,4,6,14,15,16]|5|6=>[1,4,6,8,14,15,16]|7=>[1,4,6,9,10,14,15,16]|8=>[1,4,6,9,14,15,16]|10|12=>[4,6]|11=>[4]|13|14|15=>[4,11]|16=>[4,11,12]|_=>[]
@[simp] def qqj:Nat->List Nat|0=>[0,1,2]|1|4=>[0,2,4]|2=>[0,2,4,8]|3=>[8]|5|8|9|11=>[0,2,4,9]|6=>[0,2,9]|7|13=>[0,9]|12=>[0,4,9]|_=>[]
@[simp] def qqi:Nat->List Nat|0|1|6=>[0]|2|3|4=>[0,3]|_=>[]
@[simp] def qqh:Nat->List Nat|0=>[0,1]|1=>[2,3]|2|3|4|5=>[2,3,5]|_=>[]
@[simp] def qqg:Nat->List Nat|0=>[0]|1=>[0,2]|_=>[]
@[simp] def qqf:Nat->List Nat|0|1|4=>[0,1]|2=>[0,1,6]|3=>[6]|5|6=>[7]|_=>[]
@[simp] def qqe:Nat->List Nat|0|1=>[0]|_=>[]
def q1b:=KF [[0],[1],[1,3],[6,7],[3,6,7],[3,5,6,7],[3,6,7],[3]]
@[simp] def qqd:Nat->List Nat|0|1=>[0]|2=>[3]|_=>[]
@[simp] def qqc:Nat->List Nat|0|1=>[0]|2=>[0,4,5]|3|4|8=>[4,5,11,12,13]|5|6|7=>[4,5,7,11,12,13]|9=>[4,5]|_=>[]
@[simp] def qqb:Nat->List Nat|0|1|2|4|5=>[0]|_=>[]
@[simp] def qqa:Nat->List Nat|_=>[]
@[simp] def qpZ:Nat->List Nat|0|1=>[0]|_=>[]
@[simp] def qpY:Nat->List Nat|0|1|3|5|7|10=>[0,1,2]|8|9=>[0,1,2,7]|_=>[]
@[simp] def qpX:Nat->List Nat|0|1=>[0]|_=>[]
@[simp] def qpV:Nat->List Nat|0=>[0]|1=>[1]|2=>[1,3]|3|4|5=>[1,3,4]|6=>[3]|_=>[]
@[simp] def qpU:Nat->List Nat|0|1=>[0]|2=>[0,3]|3|4|5|6=>[0,3,4]|7=>[3]|_=>[]
@[simp] def qpT:Nat->List Nat|0=>[0]|1=>[0,2]|_=>[]
@[simp] def qpS:Nat->List Nat|0=>[0,1]|1=>[1,2]|2|3=>[1,2,5]|4|5|6|7|8|9|10|11|12=>[1,2,5,6]|13=>[1,5,6]|14|15=>[1,5]|16=>[5]|_=>[]
@[simp] def qpR:Nat->List Nat|0|1=>[0]|_=>[]
@[simp] def qpQ:Nat->List Nat|0=>[0,1]|1=>[0,1,4]|2=>[0,1,4,5]|_=>[]
@[simp] def qpP:Nat->List Nat|0|1=>[0]|_=>[]
def q1a:=KF [[0,1,2,3,4],[0,1,2,3,9],[0,2,3,9,12,13],[13],[0,2,3,9,12],[],[0,2,3,9,12],[0,2,3,9,12,14],[0,2,3,9,12,14,15],[0,2,3,9,12,14,15,16],[0,2,3,9,12,14,15,16,17],[0,2,3,9,12,14,15,16,17,18],[0,2,3,9,12,14,15,16,17,18],[0,2,3,9,12,14,15,16,17,18],[0,2,3,9,12,14,15,16,17,18,19],[0,2,3,9,12,14,15,16,17,18,19],[0,2,3,9,12,14,15,16,17,18,19,20],[0,2,3,9,12,14,15,16,17,18,19,20],[0,2,3,9,12,14,15,16,17,18,19,20],[0,2,3,9,14,15,16,17],[0,2,3,9,14,15,16,17,21],[0,2,3,9,14,15,16,17,21],[0,2,3,9,14,15,16,17,21],[0,2,3,9,14,15,16,17,21,22],[0,2,3,9,14,15,16,17],[0,2,3,9,14,15,16,17,23],[0,2,3,9,14,16,23,24],[0,2,3,9,14,16,23,24],[0,2,3,9,14,16,23,24,26],[0,2,3,9,14,16,23,24,25,26],[0,2,3,9,14,16,23,24,25,26],[0,2,3,9,14,16,23,24,26],[0,2,3,9,14,16,23,24,26,27],[0,2,3,9,14,16,23,24,26,27],[0,2,3,9,14,16,23,24,26,27],[0,2,3,9,14,16,23,24,26,27,28],[0,2,3,9,14,16,23,24,26,27,28],[0,2,3,9,14,16,23,24,26,27,28],[0,2,3,9,14,16,23,24,26,27,28],[0,2,3,9,14,16,23,24,26,27,28],[0,2,3,9,14,16,23,24,26,27,28],[0,2,3,9,14,23,24,26],[0,14],[],[0,2,3,9,23,24,26],[0,2,3,9,23,24],[0,2,3,9,23,24],[0,2,3,9,23,24],[0,9,23,24],[23]]
@[simp] def qpO:Nat->List Nat|0|1=>[0]|_=>[]
@[simp] def qpM:Nat->List Nat|0=>[0,1]|1=>[1,2]|2|3|4|5=>[1,2,5]|6|7=>[2,5]|_=>[]
@[simp] def qpL:Nat->List Nat|0|1=>[0,1]|_=>[]
@[simp] def qpK:Nat->List Nat|0|1=>[0,1]|_=>[]
@[simp] def qpJ:Nat->List Nat|0|1=>[0,1]|_=>[]
@[simp] def qpI:Nat->List Nat|0|1=>[0,1]|_=>[]
@[simp] def qpH:Nat->List Nat|0=>[0]|1=>[0,2]|2|4=>[0,2,4]|3|9=>[2]|5|6|11=>[0,2,4,12,13]|7=>[0,2,4,5,12,13]|8|10=>[0,2,4,5,6,12,13]|12=>[2,4]|_=>[]
@[simp] def qpG:Nat->List Nat|0|1=>[0]|2=>[0,4,5]|4=>[4]|_=>[]
@[simp] def qpF:Nat->List Nat|0|1=>[0]|2=>[0,4,5]|3=>[5]|4=>[0,4]|5=>[0,4,6]|_=>[]
@[simp] def qpE:Nat->List Nat|0|1=>[0]|2=>[0,4]|3|4|6=>[0,4,5]|5|14|19=>[5]|7=>[0,4,5,6,7]|8=>[5,7]|9=>[0,4,5,6]|10|11|18=>[0,4,5,40,41,42]|12|13|15=>[0,4,5,9,40,41,42]|16=>[0,4,5,10,40,41,42]|17=>[5,10]|_=>[]
@[simp] def qpD:Nat->List Nat|0|1=>[0,1]|_=>[]
@[simp] def qpB:Nat->List Nat|0|1=>[0,1]|2|3|6=>[0,1,7,8]|4=>[0,1,5,7,8]|5=>[5]|_=>[]
@[simp] def qpA:Nat->List Nat|0=>[0,1]|1=>[1,2]|_=>[]
def q0Z:=KF [[0],[0],[0],[0,3],[0,3,16,17],[0,3,16,17],[0,3,4,16,17],[0,3,4,5,6,16,17],[0,4,5,16,17],[0,3,16,17],[0],[0]]
@[simp] def qp9:Nat->List Nat|0=>[0,1]|1=>[0,1,4]|2=>[0,4,6,7]|3=>[4,7]|4=>[0,4,6]|_=>[]
@[simp] def qp8:Nat->List Nat|0=>[0,1]|_=>[]
@[simp] def qp7:Nat->List Nat|0=>[0,1]|1=>[2,3]|_=>[]
@[simp] def qp6:Nat->List Nat|0|1|9|11=>[0,1]|2=>[0,1,5]|3=>[0,1,5,6]|4=>[6]|7=>[0,1,6]|_=>[]
@[simp] def qp5:Nat->List Nat|0|1|3=>[0,1]|2|16=>[0]|4|5|6|7=>[0,1,5]|8=>[0,1,5,6]|9|10|11|12|13=>[0,1,5,6,7]|14|15=>[0,5]|_=>[]
@[simp] def qp4:Nat->List Nat|0=>[0,1]|1=>[2,3]|_=>[]
@[simp] def qp3:Nat->List Nat|0|1=>[0,1]|_=>[]
@[simp] def qp1:Nat->List Nat|0=>[0,1]|1=>[1,2]|_=>[]
@[simp] def qp0:Nat->List Nat|0=>[0,1]|1=>[1,2,4]|2=>[1,2,4,6]|3=>[1,2,4,6,7,8]|4|5|7=>[1,2,4,6,7]|6=>[1,2,4,6,7,9]|8=>[1,4,6]|9|10=>[1,4,6,9]|11=>[4,6]|_=>[]
@[simp] def qpz:Nat->List Nat|0=>[0,1]|1=>[0,3,4]|2=>[0,3,4,5]|3=>[0,4,5]|4=>[3,4]|_=>[]
@[simp] def qpy:Nat->List Nat|0=>[0,1]|1|2|3=>[0,1,4]|4=>[0,1,4,5]|5|6|7|8=>[0,1,4,5,6]|9=>[4,5]|_=>[]
@[simp] def qpx:Nat->List Nat|0=>[0,1]|1|3|5=>[2,3]|_=>[]
@[simp] def qpw:Nat->List Nat|0=>[0,1]|1|3=>[0,3]|_=>[]
@[simp] def qpv:Nat->List Nat|0|1|3=>[0,1]|_=>[]
@[simp] def qpu:Nat->List Nat|0=>[0,1]|1=>[0,3]|2|6=>[3,5]|3|4=>[3,5,6]|5|7|8=>[5]|_=>[]
@[simp] def qpt:Nat->List Nat|0|1|3=>[0,1]|_=>[]
@[simp] def qpr:Nat->List Nat|0|1=>[0,1]|3=>[1]|4|5|8=>[11,12,13]|6=>[6,11,12,13]|_=>[]
@[simp] def qpq:Nat->List Nat|0|1=>[0,1]|2|3|6=>[1,10,11,12]|4=>[1,6,10,11,12]|5=>[6]|_=>[]
@[simp] def qpp:Nat->List Nat|0|1|3=>[0]|_=>[]
@[simp] def qpo:Nat->List Nat|0|1=>[0,1]|_=>[]
def q0Y:=KF [[0,1],[0,1],[],[0,1],[0,1,5],[0,1,6],[0,1,5,6],[0,1,5,6],[0,5]]
def q0X:=KF [[0],[0],[],[0],[0,4],[0,5],[0,4,5],[0,4,5],[0,4,5,7],[7],[0,4,5],[0,4,5,8],[0,4,5,8],[0,4,5,8],[0,4,5,8],[0,4,5,8],[0,4,5,8,9],[0,4,5,8,9],[0,4,5,8,9],[0,4,5,8],[4],[],[4]]
def q0W:=KF [[0,1],[0,1],[0,1,5],[0,6],[0,5,6],[0,5,6],[5]]
@[simp] def qsu:Nat->List Nat|0|1=>[0]|2|3|4|5|11=>[0,3]|6|7|8=>[0,3,4]|9|10=>[0,3,4,5]|12=>[3]|_=>[]
@[simp] def qst:Nat->List Nat|0=>[0,1]|1=>[0,3]|2|7=>[0,3,5]|3|4|5=>[0,3,5,6]|6=>[6]|8=>[0,3,5,7]|9=>[0,3,5,7,8]|10|12|13=>[0,3,5,8,9]|11=>[0,3,5,8,9,10]|14=>[0,3,8]|15|17=>[0,8,11]|16=>[0,8,11,12]|18=>[0]|_=>[]
@[simp] def qss:Nat->List Nat|0=>[0,1,2]|1=>[0,2,4]|2=>[2,4]|3=>[2]|_=>[]
@[simp] def qsr:Nat->List Nat|0|1=>[0,1]|2=>[0,1,5]|3|4=>[0,5]|5=>[5]|_=>[]
def q1n:=KF [[0],[1],[1,3],[1,3],[4],[1,3,4],[1,3,4],[3]]
@[simp] def qsq:Nat->List Nat|0|1=>[0]|2=>[0,3]|3|4|5=>[0,3,4]|6=>[3]|_=>[]
@[simp] def qsp:Nat->List Nat|0|1=>[0,1,2,3,4]|2|7=>[0,1,2,3,4,12,13]|3|4|6=>[0,1,2,3,4,12,13,14]|5=>[0,1,2,3,4,13,14]|8=>[0,1,2,3,4,13]|9|10|11=>[0,1,2,3,4,13,15]|12|13=>[0,1,2,4,13,15]|14=>[0,1,2,4,12,15]|15=>[0,1,2,4,12]|16=>[1,2,12]|_=>[]
@[simp] def qso:Nat->List Nat|0=>[0,1,2]|1|2|3=>[0,1,2,6]|_=>[]
def q1m:=KF [[0,1],[0,1],[0,1,5],[0,1,5,6],[0,1,6],[0,1,5,6],[0,1,5,6],[5]]
def q1l:=KF [[0],[0],[0,3],[0,3,4],[0,4],[0,3,4],[3]]
@[simp] def qsm:Nat->List Nat|0|1=>[0,1]|_=>[]
@[simp] def qsl:Nat->List Nat|0|1|2=>[0,1]|3=>[0]|_=>[]
@[simp] def qsk:Nat->List Nat|0|1|2=>[0,1]|3=>[0]|_=>[]
@[simp] def qsi:Nat->List Nat|0|1|3|5|7|8=>[0,1,2,3]|4=>[0,3]|6=>[0,1,2]|9|10=>[0,1,2,3,9]|11|12|16=>[0,1,2,3,9,10]|13|14|15=>[0,1,2,3,9,10,11]|17=>[0,9,10]|18=>[9,10]|_=>[]
@[simp] def qsh:Nat->List Nat|0|1=>[0,1]|_=>[]
@[simp] def qsg:Nat->List Nat|0|1=>[0,1,2]|2|3=>[0,1,2,8,9]|4=>[8]|_=>[]
@[simp] def qsf:Nat->List Nat|0=>[0]|1|3|5=>[0,2]|2|4|8|10|12|14=>[2]|6=>[0,2,4]|7|9|11|13=>[0,2,4,5,6]|15|18=>[2,4,5]|16=>[2,4,5,7]|17=>[2,7]|19=>[2,4,8]|20=>[2,8]|21=>[2,4]|_=>[]
@[simp] def qse:Nat->List Nat|0=>[0]|1=>[1]|2=>[1,4]|4=>[4]|_=>[]
@[simp] def qsd:Nat->List Nat|0|1=>[0,1]|_=>[]
@[simp] def qsc:Nat->List Nat|0|1|3=>[0,1]|4=>[0,6,7]|5=>[6,7]|_=>[]
@[simp] def qsb:Nat->List Nat|0|1|4=>[0,1]|2=>[0,1,5]|_=>[]
@[simp] def qsa:Nat->List Nat|0|1|3=>[0]|_=>[]
@[simp] def qrZ:Nat->List Nat|0|1|3=>[0,1]|_=>[]
@[simp] def qrY:Nat->List Nat|0=>[0,1]|1=>[2,3,4]|2=>[4,5]|_=>[]
@[simp] def qrX:Nat->List Nat|0=>[0,1,2]|1|7|8|16=>[0,1,2,6]|2|3|5|9|10|12=>[0,1,2,6,7,8]|4|11=>[0,1,2,6,8]|6|13=>[0,1,2,6,7]|14|15=>[0,1,2,6,7,9]|_=>[]
@[simp] def qrW:Nat->List Nat|0|1=>[0]|_=>[]
@[simp] def qrV:Nat->List Nat|0|1=>[0,1]|2|3|6=>[0,1,7,8]|4=>[0,1,5,7,8]|5=>[5]|_=>[]
@[simp] def qrU:Nat->List Nat|0|1=>[0,1,2]|2=>[0,1,2,8]|3|4=>[0,1,2,8,9,10]|5=>[0,1,2,8,9,10,11]|6=>[0,1,2,8,10,11]|7=>[0,1,2,8,9,11]|8=>[0,1,2,8,9]|_=>[]
@[simp] def qrT:Nat->List Nat|0=>[0,1]|1=>[1,2]|_=>[]
@[simp] def qrR:Nat->List Nat|0=>[0,1]|1=>[0,3]|_=>[]
@[simp] def qrQ:Nat->List Nat|0|1=>[0]|2=>[0,3]|3|4|7=>[3,6,7,8]|5=>[3,5,6,7,8]|6=>[5]|8=>[3]|_=>[]
@[simp] def qrP:Nat->List Nat|0|1|3=>[0]|_=>[]
@[simp] def qrO:Nat->List Nat|0=>[0,1]|1=>[0,1,4]|_=>[]
@[simp] def qrN:Nat->List Nat|0=>[0,1]|1=>[2,3]|_=>[]
@[simp] def qrL:Nat->List Nat|0|1|3=>[0]|4|5|8=>[0,13,14]|6=>[0,3,13,14]|_=>[]
@[simp] def qrK:Nat->List Nat|0|1|8=>[0,1]|2|3|4=>[0]|5=>[0,5]|6=>[0,5,6]|7=>[5,6]|9=>[8]|_=>[]
def q1j:=KF [[0,1],[0,1],[],[0,1],[1,5],[],[5],[5]]
@[simp] def qrI:Nat->List Nat|0=>[0]|1|3|5=>[1]|_=>[]
@[simp] def qrH:Nat->List Nat|0=>[0]|1=>[1]|_=>[]
@[simp] def qrG:Nat->List Nat|0=>[0]|1=>[0,2]|_=>[]
@[simp] def qrF:Nat->List Nat|0=>[0]|1=>[1]|_=>[]
@[simp] def qrD:Nat->List Nat|0|1=>[0,1,2,3,4]|2=>[0,1,2,3,4,11,12]|3|4|5=>[0,1,2,3,4,11,12,13]|6|7=>[0,1,2,3,4,11,13]|8=>[0,2,3,4,11,12]|9|11=>[0,3,11,12,14]|10|12=>[0,3,11,14]|13=>[11]|_=>[]
@[simp] def qrC:Nat->List Nat|0|1|6=>[0,1]|2|3|4=>[0,1,5]|5=>[0,5]|7=>[0,1,6]|8=>[0,1,6,7]|9|10|11=>[0,1,7,8]|12=>[7]|_=>[]
@[simp] def qrB:Nat->List Nat|0|1|3=>[0,1,2]|4=>[0,1,2,8]|5|6|7=>[0,1,8,9]|8=>[8]|_=>[]
def q1i:=KF [[0,1],[1,2],[1,5,6],[1,7],[1,7,8],[1,7,8],[1,7,8,9],[1,7,8,9],[1,7,8,9],[1,7,8],[1,7,8],[7,10],[7,10],[7,10],[7],[7],[7]]
@[simp] def qrA:Nat->List Nat|0|1=>[0]|2=>[0,3]|3|5=>[0,3,4,5]|4|40|41|42=>[4,5]|6|7|8|9|10|11|12|13|14|15|16|17|18|19|20|21|22|23|24|25|26|27=>[0,3,4,5,6]|28|29|30|31|32|33|34|35|36|37|38|39=>[3,4,5]|_=>[]
@[simp] def qr9:Nat->List Nat|0|1|3|5=>[0]|_=>[]
@[simp] def qr8:Nat->List Nat|0=>[0]|1=>[1]|_=>[]
@[simp] def qr7:Nat->List Nat|0|1=>[0,1]|_=>[]
@[simp] def qr6:Nat->List Nat|0|1|3|4|5=>[0,1]|2=>[0]|6=>[0,1,5]|7|9|10=>[0,1,5,6]|8=>[5]|_=>[]
@[simp] def qr4:Nat->List Nat|0|1=>[0,1]|_=>[]
@[simp] def qr3:Nat->List Nat|0|1=>[0,1]|_=>[]
@[simp] def qr2:Nat->List Nat|0|1|3=>[0,1,2]|4=>[0,1,2,8]|6|7|9|11|14|17|20|21|23|25|26|27|29|31=>[0,1,2,8,9]|8|10|12|13|15|16|18|19=>[0,2,8,9]|22=>[0,1,8,9]|28|30=>[0,1,2,8,9,85]|32=>[0,1,2,8,9,10]|33=>[0,1,8,9,10,11]|34=>[0,1,8,9,10,11,12]|35=>[0,1,8,9,10,11,12,13]|36|37|55=>[1,8,9,10,11,12,13,99,100,101]|38|40|42|43|44|45=>[1,8,9,10,11,12,13,15,99,100,101]|41=>[1,8,9,10,11,13,99,100,101]|46|48|50|51=>[1,8,9,10,11,12,13,16,99,100,101]|49|53=>[11]|52=>[1,8,9,10,11,12,13,17,99,100,101]|54=>[1,8,9,10,11,12,17,99,100,101]|56=>[9,12,13]|58=>[13]|_=>[]
@[simp] def qr1:Nat->List Nat|0|1=>[0,1,2,3,4]|2|4|6=>[0,1,2,3,4,11]|3|5=>[0,1]|7=>[0,1,2]|8=>[0,1,3,4,11]|9=>[0,1,3]|10=>[4]|_=>[]
@[simp] def qr0:Nat->List Nat|0|1=>[0,1]|_=>[]
@[simp] def qrz:Nat->List Nat|0=>[0]|1=>[1,2]|2=>[1,2,3]|3|4=>[1,2,3,4]|5|10|16=>[1,2,3,4,5]|6|7|9=>[1,2,3,4,5,22,23,24]|8=>[1,2,3,4,5,7,22,23,24]|11|12|14|15=>[1,2,3,4,5,38,39,40]|13=>[1,2,3,4,5,9,38,39,40]|17=>[1,2,3,5]|18=>[2,3]|_=>[]
@[simp] def qry:Nat->List Nat|0=>[0,1,2,3]|1|3|5=>[1,2,3,4]|_=>[]
@[simp] def qrx:Nat->List Nat|0|1=>[0]|_=>[]
@[simp] def qrw:Nat->List Nat|0=>[0,1]|1=>[2,3,4]|2=>[4,5]|_=>[]
@[simp] def qru:Nat->List Nat|0=>[0,1,2]|_=>[]
def q1h:=KF [[0,1],[0,1,4],[0,4,5],[0,4,5,6],[0,4,5,6],[0,4,5,6],[0,4,5,6,7],[0,4,5,6,7,32,33,34],[0,4,5,6,7,32,33,34],[0,4,5,6,7,9,32,33,34],[0,4,5,6,7,9,10,32,33,34],[0,4,5,6,7,10,32,33,34],[0,4,5,6,7,10,32,33,34],[0,4,5,6,7,10,11,12,32,33,34],[0,4,5,6,7,10,11,32,33,34],[0,4,5,6,7,10,32,33,34],[0,32,33,34],[4,5,6,7],[4,6],[4,6]]
@[simp] def qrt:Nat->List Nat|0=>[0,1,2,3]|1|2|3=>[0,1,2,3,8]|4|5|6=>[0,1,2,3,8,9]|_=>[]
@[simp] def qrs:Nat->List Nat|0|1|12|24=>[0,1,2,3,4]|2=>[0,1,3,4,10]|3|4=>[0,1,4,10,11]|5=>[0,1,4,10,11,12]|6=>[0,1,4,11,12]|7=>[0,1,4,10,12]|8=>[0,1,10]|9|10|11=>[0,10,13]|13=>[0,1,2,4]|14=>[0,2,4,14]|15|16=>[0,2,4,14,15]|17=>[0,2,4,14,15,16]|18=>[0,2,4,15,16]|19=>[0,2,4,14,16]|20=>[0,2,14]|21|22|23=>[0,14,17]|25=>[0,1,2,3,4,18]|26|27|28|30=>[0,1,2,3,4,18,19]|29|31|38=>[0,1,2,3,4,18,19,20]|32=>[0,1,2,3,4,18,19,20,21]|33|34=>[0,1,2,3,4,18,19,20,21,22]|35=>[0,1,2,3,4,18,19,20,21,22,23]|36=>[0,1,2,3,4,18,19,21,22,23]|37=>[0,1,2,3,4,18,19,20,22,23]|39|40=>[0,1,2,3,4,18,20,24]|41|42=>[0,1,3,4,18,20,24]|43|44=>[0,3,4,18,24]|_=>[]
@[simp] def qrr:Nat->List Nat|0=>[0,1]|1=>[1,2]|_=>[]
@[simp] def qrq:Nat->List Nat|0=>[0,1,2,3,4]|1=>[0,1,2,3,4,10]|2=>[0,1,2,3,4,10,11]|3|5|7|8|9|10=>[0,1,2,3,4,10,11,12]|4|6=>[0,1,2,4]|11|15=>[0,1,2,3,4,10,11,12,13,14]|12|13|14|16|17=>[0,1,2,3,4,10,11,12,13]|18=>[0,1,2,3,4,10,11,13]|19=>[0,2,3,4,10,11,15]|20=>[0,1,2,3,4,12,13]|21=>[0,1,2,3,4,12,16,17]|22=>[0,1,2,3,4,11,12,16]|23=>[0,1,2,3,4,11,12,16,18,19]|24=>[0,1,2,3,4,11,16,18,19,20]|25=>[0,1,2,3,4,11,16,18,20]|26|29=>[0,1,2,3,4,10,11,16]|27=>[0,2,3,4,10,11,16]|28=>[0,1,2,3,4,11,16,19,20]|30=>[0,1,3,4,10,11,16]|_=>[]
@[simp] def qro:Nat->List Nat|0=>[0,1,2,3,4]|1|2|3=>[0,1,2,3,4,10,11]|4=>[0,1,2,3,4,10,11,12]|5|6|7|8|17=>[0,1,2,3,4,10,11,12,13]|9=>[0,1,2,3,4,10,11,12,13,14]|10=>[0,1,2,3,4,10,11,12,13,14,15]|11|12|13|14=>[0,1,3,4,10,11,12,13,14,15,16]|15|16|23|24=>[0,1,3,4,10,11,12,13]|18|19|20=>[0,1,3,4,10,11,12,13,17]|21=>[0,1,3,4,10,11,12,13,17,18]|22=>[0,3,4,10,11,12,13,17,18]|25=>[0,3,4,10,11,12,13]|26|27|28=>[0,4,10,11,12,13]|29=>[0,11,12,13]|30=>[10,12,13]|_=>[]
@[simp] def qrn:Nat->List Nat|0|1|7=>[0]|2|3|4=>[0,3]|5=>[0,3,4]|_=>[]
@[simp] def qrm:Nat->List Nat|0=>[0]|1=>[1]|_=>[]
@[simp] def qrl:Nat->List Nat|0|1=>[0,1]|_=>[]
@[simp] def qrk:Nat->List Nat|0=>[0,1]|1=>[1,2,4]|2=>[1,4,5,6,7,8]|3|4|5|6|7|8|9|10|11|12|13|14|15|16|17|18=>[1,4,5,6,7,8,9]|19=>[4,5,6,7,8]|_=>[]
@[simp] def qrj:Nat->List Nat|0|1=>[0,1]|2=>[0,1,5]|3|4|5|6|7=>[0,1,5,6]|8=>[5]|_=>[]
@[simp] def qri:Nat->List Nat|0|1=>[0,1]|_=>[]
@[simp] def qrh:Nat->List Nat|0|1=>[0]|_=>[]
@[simp] def qrg:Nat->List Nat|0|1=>[0,1]|_=>[]
@[simp] def qrf:Nat->List Nat|0|1=>[0,1]|_=>[]
@[simp] def qre:Nat->List Nat|0|1=>[0,1]|_=>[]
@[simp] def qrd:Nat->List Nat|0|1=>[0,1]|2=>[4]|_=>[]
@[simp] def qrc:Nat->List Nat|0|1|3=>[0,1,2]|4=>[0,1,2,8]|5|6|7=>[0,1,8,9]|8=>[8]|_=>[]
@[simp] def qrb:Nat->List Nat|0|1=>[0]|_=>[]
@[simp] def qra:Nat->List Nat|0|1=>[0]|_=>[]
@[simp] def qqZ:Nat->List Nat|0|1=>[0,1,2]|2=>[2,3,4]|3=>[2,3]|_=>[]
@[simp] def qqY:Nat->List Nat|0=>[0,1]|_=>[]
@[simp] def qqX:Nat->List Nat|0=>[0,1]|1=>[0,1,4]|2=>[4,6,7]|3=>[4,7]|4=>[4,6]|5=>[4,8]|_=>[]
@[simp] def qqW:Nat->List Nat|0|1=>[0]|_=>[]
@[simp] def qqV:Nat->List Nat|0=>[0,1]|1|2=>[0,1,4]|3=>[4,5,6]|4=>[4,5]|_=>[]
@[simp] def qqR:Nat->List Nat|0=>[0,1]|1=>[0,1,4]|2=>[0,4,5]|3|4=>[4,5]|_=>[]
@[simp] def qqQ:Nat->List Nat|0=>[0]|1=>[0,2]|2=>[2,4,5,6]|3|5=>[2]|4|6=>[2,4,5]|_=>[]
@[simp] def qqP:Nat->List Nat|0|1=>[0]|2=>[0,3]|3|4|6=>[3,6,7,8]|5=>[3,5,6,7,8]|7=>[3]|_=>[]
@[simp] def qqO:Nat->List Nat|0=>[0,1,2,3,4]|1=>[0,2,3,4,10]|2|3|4|5|6|7=>[0,2,4,10,11]|8=>[0,2,4,10]|_=>[]
@[simp] def qqM:Nat->List Nat|0=>[0,1,2,3]|1|2|3=>[0,1,2,3,8]|4|5|6=>[0,1,2,3,8,9]|_=>[]
@[simp] def qqK:Nat->List Nat|0|1=>[0,1]|_=>[]
@[simp] def qqI:Nat->List Nat|0|1=>[0]|_=>[]
@[simp] def qqH:Nat->List Nat|0|1=>[0,1,2,3,4]|2=>[0,1,2,3,4,12,13]|3=>[0,1,2,4,12,13,14]|4=>[13]|5=>[0,1,2,4,12,14]|7=>[0,1,4,12,14]|9=>[0,1,12]|_=>[]
def q1f:=KF [[0],[0],[0,3],[0,3,4],[0,4],[0,3,4],[0,3,4,5],[3]]
def q1e:=KF [[0,1],[0,1,4],[4,6,7],[4,7],[4,6],[4,6,8],[4,6,8,9],[4,8,9],[4,8,9,10],[8,10],[4,8,9,10],[4,9],[4],[4,9],[4,9,11],[4,9,11],[4,9,11],[4],[4,9]]
@[simp] def qqE:Nat->List Nat|0=>[0,1]|1|2=>[0,1,4]|3=>[4,5,6]|4=>[4,5]|_=>[]
@[simp] def qqD:Nat->List Nat|0|1=>[0,1]|_=>[]
@[simp] def qqB:Nat->List Nat|0|1=>[0,1]|2|3=>[0,1,7]|4=>[0]|_=>[]
@[simp] def qqA:Nat->List Nat|0|1|3=>[0]|4|5|9=>[0,24,25]|6=>[0,3,24,25]|7=>[0,4,24,25]|_=>[]
def q1d:=KF [[0],[0],[0,3],[0,4],[0,4],[0,4],[0,4],[0,4],[0,4],[0,4,5],[4,5],[4],[4]]
@[simp] def qq9:Nat->List Nat|0=>[0,1,2,3]|1|2|3=>[0,1,2,3,10]|_=>[]
@[simp] def qq7:Nat->List Nat|0=>[0,1]|1=>[0,1,4]|2|4|6|7=>[0,1,4,6]|3|5|10|12|14|16=>[4]|8=>[0,1,4,6,7]|9|11|13|15=>[4,6,7]|17=>[4,7]|_=>[]
@[simp] def qq6:Nat->List Nat|0=>[0,1]|1=>[0,1,4]|2=>[4,6,7,8]|3=>[4,8]|4=>[4,6,7]|_=>[]
@[simp] def qq5:Nat->List Nat|0=>[0,1,2]|1=>[0,2,4]|2=>[2,4]|3=>[2]|_=>[]
@[simp] def qq4:Nat->List Nat|0|1|5|7|14=>[0,1]|2|4|6|10|12|13|15|36=>[0,1,5]|16=>[0,1,5,6]|17=>[0,1,5,6,7]|18=>[0,1,5,6,7,8]|19=>[0,1,5,6,7,8,9]|20|21|22|26|28|29|30=>[0,1,5,6,7,8,9,10]|23|25=>[0,1,5,6,7,8,9,10,11]|27=>[8]|31=>[0,1,8]|32|33=>[8,12]|37=>[0,1,5,13]|38=>[0,1,5,13,14]|39=>[0,1,5,13,14,15]|40=>[0,1,5,13,14,15,16]|41|42|43|46|48|49|50=>[0,1,5,13,14,15,16,17]|44|45=>[0,1,5,13,14,15,16,17,18]|47=>[15]|51=>[0,1,15]|52|54=>[15,19]|_=>[]
@[simp] def qq3:Nat->List Nat|0=>[0,1]|1=>[0,1,4]|2=>[0,1,4,6]|3=>[0,4,6,8]|4=>[0,6,8]|5=>[0,8]|_=>[]
@[simp] def qq2:Nat->List Nat|0=>[0]|1|2|3|4|5|6|7|8|9|10|11|12|13|14|15|16|17|18|19=>[0,2,3,4]|_=>[]
@[simp] def qq0:Nat->List Nat|0=>[0]|1|2|3|4|5|6|7|8|9|10|11|12|13|14|15=>[0,2,3,4]|_=>[]
def q1c:=KF [[0,1,2,3],[0,1,2,3],[0,1,2,3,11,12],[12],[0,1,2,3,11],[],[0,1,3,11],[],[0,1,3,11],[3,13],[3,13],[3,13,14,49,50],[3,13,14,49,50],[3,13,14,15,49,50],[3,13,14,16,49,50],[3,13,49,50],[3,13,14]]
@[simp] def qqz:Nat->List Nat|0=>[0,1]|1=>[1,2]|2=>[1,5]|3=>[5]|_=>[]
@[simp] def qqy:Nat->List Nat|0|1=>[0,1]|_=>[]
@[simp] def qqx:Nat->List Nat|0|1=>[0,1]|2=>[0,5]|_=>[]
@[simp] def qqw:Nat->List Nat|0=>[0]|1=>[1]|2=>[1,3]|3=>[3,5]|_=>[]
@[simp] def qqu:Nat->List Nat|0|1|2|5|6|8=>[0,1]|3|4=>[0,1,4]|7=>[0,1,5]|_=>[]
@[simp] def qqt:Nat->List Nat|0|1=>[0]|2|3|4=>[0,3]|5=>[0,4]|6=>[4,6]|7|8|9=>[6]|_=>[]
@[simp] def qqs:Nat->List Nat|0|1|2=>[0,1]|_=>[]
@[simp] def qqr:Nat->List Nat|0=>[0,1]|1=>[0,1,4,5,6,7]|2|3|4|5|6|7|8|9|10|11|12|13=>[0,4,5,6,7,24,25]|14=>[0,4,5,6,7]|_=>[]
@[simp] def qqq:Nat->List Nat|0|1=>[0,1]|2=>[0,5]|_=>[]
def q1o:Nat->Nat->Option (List Nat×Nat)
 |3=>KG kl3
 |5=>KG kl5
 |6=>KG kl6
 |7=>KG kl7
 |8=>KG kl8
 |9=>KG kl9
 |10=>KG qsv
 |11=>KG qsn
 |12=>q1k
 |13=>KG qrS
 |14=>KG qrM
 |15=>KG qrJ
 |16=>KG qrE
 |17=>KG qr5
 |18=>KG qrv
 |19=>KG qrp
 |20=>q1g
 |23=>KG qqS
 |24=>KG qqL
 |25=>KG qqJ
 |26=>KG qqF
 |27=>KG qq8
 |28=>KG qq1
 |29=>KG qqv
 |30=>KG qqo
 |31=>KG qqn
 |32=>KG qqm
 |33=>KG qql
 |34=>KG qqk
 |35=>KG qqj
 |36=>KG qqi
 |37=>KG qqh
 |38=>KG qqg
 |40=>KG qqf
 |41=>KG qqe
 |42=>q1b
 |43=>KG qqd
 |44=>KG qqc
 |45=>KG qqb
 |46=>KG qqa
 |47=>KG qpZ
 |48=>KG qpY
 |49=>KG qpX
 |51=>KG qpV
 |52=>KG qpU
 |53=>KG qpT
 |54=>KG qpS
 |55=>KG qpR
 |56=>KG qpQ
 |57=>KG qpP
 |58=>q1a
 |59=>KG qpO
 |60=>KG qpM
 |61=>KG qpL
 |62=>KG qpK
 |63=>KG qpJ
 |64=>KG qpI
 |65=>KG qpH
 |66=>KG qpG
 |67=>KG qpF
 |68=>KG qpE
 |69=>KG qpD
 |70=>KG qpB
 |71=>KG qpA
 |72=>q0Z
 |73=>KG qp9
 |74=>KG qp8
 |75=>KG qp7
 |76=>KG qp6
 |77=>KG qp5
 |78=>KG qp4
 |79=>KG qp3
 |80=>KG qp1
 |81=>KG qp0
 |82=>KG qpz
 |83=>KG qpy
 |84=>KG qpx
 |85=>KG qpw
 |86=>KG qpv
 |87=>KG qpu
 |88=>KG qpt
 |91=>KG qpr
 |92=>KG qpq
 |93=>KG qpp
 |94=>KG qpo
 |97=>q0Y
 |98=>q0X
 |99=>q0W
 |100=>KG qsu
 |101=>KG qst
 |102=>KG qss
 |103=>KG qsr
 |104=>q1n
 |105=>KG qsq
 |106=>KG qsp
 |107=>KG qso
 |108=>q1m
 |109=>q1l
 |110=>KG qsm
 |111=>KG qsl
 |112=>KG qsk
 |113=>KG qsi
 |114=>KG qsh
 |115=>KG qsg
 |116=>KG qsf
 |117=>KG qse
 |118=>KG qsd
 |119=>KG qsc
 |120=>KG qsb
 |122=>KG qsa
 |123=>KG qrZ
 |124=>KG qrY
 |125=>KG qrX
 |126=>KG qrW
 |127=>KG qrV
 |128=>KG qrU
 |129=>KG qrT
 |130=>KG qrR
 |131=>KG qrQ
 |132=>KG qrP
 |133=>KG qrO
 |134=>KG qrN
 |146=>KG qrL
 |147=>KG qrK
 |155=>q1j
 |156=>KG qrI
 |157=>KG qrH
 |158=>KG qrG
 |159=>KG qrF
 |160=>KG qrD
 |161=>KG qrC
 |162=>KG qrB
 |163=>q1i
 |164=>KG qrA
 |165=>KG qr9
 |166=>KG qr8
 |167=>KG qr7
 |169=>KG qr6
 |170=>KG qr4
 |171=>KG qr3
 |172=>KG qr2
 |173=>KG qr1
 |174=>KG qr0
 |175=>KG qrz
 |176=>KG qry
 |177=>KG qrx
 |178=>KG qrw
 |180=>KG qru
 |181=>q1h
 |182=>KG qrt
 |183=>KG qrs
 |184=>KG qrr
 |185=>KG qrq
 |195=>KG qro
 |200=>KG qrn
 |203=>KG qrm
 |204=>KG qrl
 |205=>KG qrk
 |206=>KG qrj
 |207=>KG qri
 |213=>KG qrh
 |215=>KG qrg
 |216=>KG qrf
 |219=>KG qre
 |220=>KG qrd
 |221=>KG qrc
 |222=>KG qrb
 |223=>KG qra
 |224=>KG qqZ
 |225=>KG qqY
 |226=>KG qqX
 |227=>KG qqW
 |229=>KG qqV
 |230=>KG qqR
 |231=>KG qqQ
 |232=>KG qqP
 |233=>KG qqO
 |234=>KG qqM
 |249=>KG qqK
 |257=>KG qqI
 |258=>KG qqH
 |259=>q1f
 |260=>q1e
 |261=>KG qqE
 |262=>KG qqD
 |263=>KG qqB
 |264=>KG qqA
 |265=>q1d
 |266=>KG qq9
 |274=>KG qq7
 |275=>KG qq6
 |276=>KG qq5
 |277=>KG qq4
 |278=>KG qq3
 |279=>KG qq2
 |280=>KG qq0
 |283=>q1c
 |284=>KG qqz
 |285=>KG qqy
 |288=>KG qqx
 |289=>KG qqw
 |290=>KG qqu
 |291=>KG qqt
 |294=>KG qqs
 |295=>KG qqr
 |296=>KG qqq
 |_=>fun _=>none
def q3U:Nat->Nat->List Nat
 |20,8=>[11]
 |58,15=>[17]
 |72,11=>[0]
 |_,_=>[]
def q3R:Nat->Nat->List Nat
 |58,15=>[16]
 |58,19=>[16,17]
 |58,24=>[15]
 |163,1=>[2]
 |265,10=>[5]
 |_,_=>[]
def qyu:Nat->Nat->List Nat
 |12,8=>[3,8]
 |12,10=>[3,8]
 |42,3=>[3]
 |97,5=>[5]
 |98,5=>[4]
 |99,3=>[5]
 |104,4=>[1,3]
 |108,4=>[5]
 |109,4=>[3]
 |155,5=>[5]
 |181,16=>[4,5,6,7]
 |259,4=>[3]
 |260,9=>[4,9]
 |283,10=>[14]
 |283,15=>[14]
 |_,_=>[]
def cvT:Nat->Nat->Bool
 |_,_=>false
def lpT:Nat->Nat->Option (List (Nat×Nat)×List Nat)
 |3,36=>some ([(14,8)],[])
 |20,8=>some ([(1,5)],[])
 |26,2=>some ([(2,0)],[])
 |54,2=>some ([(8,4)],[])
 |54,4=>some ([(8,4)],[])
 |58,18=>some ([],[95])
 |58,30=>some ([(20,16)],[])
 |60,6=>some ([(5,7),(5,8)],[])
 |72,8=>some ([(7,9),(12,9)],[])
 |81,11=>some ([(8,5)],[])
 |158,1=>some ([(7,4)],[])
 |161,9=>some ([(18,4)],[])
 |222,1=>some ([],[15])
 |223,1=>some ([],[66])
 |_,_=>none
def alT:Nat->Nat->Option Nat
 |34,6=>some 10
 |224,1=>some 9
 |_,_=>none
def q07:Nat->Bool
 |7=>true
 |25=>true
 |55=>true
 |56=>true
 |99=>true
 |158=>true
 |_=>false
def q06:Nat->Bool
 |_=>false
def grT:Nat->Bool
 |7=>true
 |8=>true
 |10=>true
 |13=>true
 |14=>true
 |15=>true
 |16=>true
 |19=>true
 |20=>true
 |26=>true
 |28=>true
 |29=>true
 |33=>true
 |34=>true
 |40=>true
 |41=>true
 |44=>true
 |45=>true
 |47=>true
 |48=>true
 |49=>true
 |53=>true
 |54=>true
 |57=>true
 |58=>true
 |70=>true
 |71=>true
 |72=>true
 |73=>true
 |74=>true
 |75=>true
 |77=>true
 |78=>true
 |79=>true
 |80=>true
 |81=>true
 |83=>true
 |84=>true
 |91=>true
 |92=>true
 |100=>true
 |101=>true
 |103=>true
 |106=>true
 |107=>true
 |119=>true
 |120=>true
 |123=>true
 |125=>true
 |127=>true
 |128=>true
 |129=>true
 |160=>true
 |161=>true
 |182=>true
 |183=>true
 |184=>true
 |222=>true
 |223=>true
 |233=>true
 |266=>true
 |290=>true
 |291=>true
 |294=>true
 |295=>true
 |315=>true
 |_=>false
def qyS:Nat->Bool
 |27=>true
 |97=>true
 |102=>true
 |104=>true
 |105=>true
 |155=>true
 |159=>true
 |162=>true
 |166=>true
 |203=>true
 |221=>true
 |232=>true
 |263=>true
 |_=>false
def q6d:Nat->Bool
 |7=>true
 |8=>true
 |10=>true
 |13=>true
 |14=>true
 |15=>true
 |16=>true
 |19=>true
 |20=>true
 |25=>true
 |26=>true
 |28=>true
 |29=>true
 |33=>true
 |34=>true
 |39=>true
 |40=>true
 |41=>true
 |44=>true
 |45=>true
 |47=>true
 |48=>true
 |49=>true
 |53=>true
 |54=>true
 |55=>true
 |56=>true
 |57=>true
 |58=>true
 |70=>true
 |71=>true
 |72=>true
 |73=>true
 |74=>true
 |75=>true
 |77=>true
 |78=>true
 |79=>true
 |80=>true
 |81=>true
 |83=>true
 |84=>true
 |91=>true
 |92=>true
 |99=>true
 |100=>true
 |101=>true
 |103=>true
 |106=>true
 |107=>true
 |119=>true
 |120=>true
 |123=>true
 |125=>true
 |127=>true
 |128=>true
 |129=>true
 |133=>true
 |158=>true
 |160=>true
 |161=>true
 |179=>true
 |180=>true
 |182=>true
 |183=>true
 |184=>true
 |185=>true
 |194=>true
 |222=>true
 |223=>true
 |224=>true
 |233=>true
 |234=>true
 |266=>true
 |278=>true
 |279=>true
 |280=>true
 |290=>true
 |291=>true
 |294=>true
 |295=>true
 |315=>true
 |_=>false
def q6p:Nat->Bool
 |2=>true
 |39=>true
 |89=>true
 |95=>true
 |135=>true
 |136=>true
 |137=>true
 |138=>true
 |139=>true
 |140=>true
 |141=>true
 |142=>true
 |143=>true
 |148=>true
 |149=>true
 |150=>true
 |151=>true
 |152=>true
 |153=>true
 |186=>true
 |189=>true
 |190=>true
 |191=>true
 |196=>true
 |197=>true
 |198=>true
 |199=>true
 |211=>true
 |242=>true
 |253=>true
 |254=>true
 |272=>true
 |332=>true
 |_=>false
def qyF:Nat->Bool
 |17=>true
 |18=>true
 |21=>true
 |23=>true
 |24=>true
 |30=>true
 |36=>true
 |37=>true
 |38=>true
 |42=>true
 |43=>true
 |50=>true
 |51=>true
 |52=>true
 |61=>true
 |62=>true
 |63=>true
 |65=>true
 |66=>true
 |76=>true
 |82=>true
 |88=>true
 |94=>true
 |95=>true
 |96=>true
 |102=>true
 |105=>true
 |114=>true
 |115=>true
 |117=>true
 |118=>true
 |131=>true
 |134=>true
 |145=>true
 |146=>true
 |147=>true
 |154=>true
 |156=>true
 |157=>true
 |162=>true
 |163=>true
 |164=>true
 |165=>true
 |169=>true
 |170=>true
 |171=>true
 |176=>true
 |177=>true
 |192=>true
 |193=>true
 |195=>true
 |200=>true
 |204=>true
 |205=>true
 |206=>true
 |207=>true
 |213=>true
 |221=>true
 |232=>true
 |243=>true
 |244=>true
 |245=>true
 |246=>true
 |249=>true
 |251=>true
 |254=>true
 |257=>true
 |262=>true
 |264=>true
 |271=>true
 |274=>true
 |276=>true
 |277=>true
 |285=>true
 |_=>false
def q3C:Nat->Bool
 |7=>false
 |8=>false
 |22=>false
 |26=>false
 |31=>false
 |33=>false
 |40=>false
 |46=>false
 |47=>false
 |54=>false
 |59=>false
 |60=>false
 |77=>false
 |81=>false
 |83=>false
 |92=>false
 |93=>false
 |100=>false
 |109=>false
 |122=>false
 |132=>false
 |222=>false
 |223=>false
 |289=>false
 |_=>true
def qla:Nat->List D->Option D
 |121=>qf0
 |212=>qgt
 |210=>qgI
 |292=>qes
 |_=>fun _=>none
def ql0[TxtC]:Nat->List D->qe->Option (D×qe)
 |211=>qgF
 |254=>qgG
 |95=>qgE
 |179=>TxtC.t 179
 |39=>qgD
 |_=>fun _ _=>none
def gz1:List Int:=[1,10,100,1000,10000,100000,1000000,10000000,100000000,1000000000,10000000000,100000000000,1000000000000,10000000000000,100000000000000,1000000000000000,10000000000000000,100000000000000000,1000000000000000000,10000000000000000000]
def gd1:List D:=gz1.map (D.int .u64)
def gs2:List UInt8:=[105,110,118,97,108,105,100,32,115,121,110,116,97,120]
def gs3:List UInt8:=[118,97,108,117,101,32,111,117,116,32,111,102,32,114,97,110,103,101]
def gz6:List Int:=[0,1,28,2,29,14,24,3,30,22,20,15,25,17,4,8,31,27,13,23,21,19,16,7,26,12,18,6,11,5,10,9]
def gd6:List D:=gz6.map (D.int .u8)
def gz7:List Int:=[0,1,56,2,57,49,28,3,61,58,42,50,38,29,17,4,62,47,59,36,45,43,51,22,53,39,33,30,24,18,12,5,63,55,48,27,60,41,37,16,46,35,44,21,52,32,23,11,54,26,40,15,34,20,31,10,25,14,19,9,13,8,7,6]
def gd7:List D:=gz7.map (D.int .u8)
def qkO[MaxL]:Nat->Option (List D)
 |1=>some gd1
 |2=>some [.iface 375 (.vptr [.str gs2])]
 |3=>some [.iface 375 (.vptr [.str gs3])]
 |6=>some gd6
 |7=>some gd7
 |0=>some [.int .i64 MaxL.m]
 |_=>none
noncomputable def cx[MaxL][TxtC]:Cx:={P:=Tryz.prog,glob:=qkO,keep:=q1o,byRef:=q6d,pureF:=qyF,ext:=qla,bad:=q6p,frz:=q3R,ret:=qyu,fzr:=q3C,con:=ql0,perm:=qyS,dynV:=false,cv:=cvT,lp:=lpT,loc:=q07,frb:=q3U,al:=alT,lom:=q06,gr:=grT}
abbrev EK[MaxL][TxtC](f:Nat)(k:Nat->List Nat):Prop:=∀(n0 r:Nat)(e:qu)(H:qe),enter cx f n0 r e H=qc2 (k r) 0 n0 e H
abbrev EN[MaxL][TxtC](f r:Nat)(s:List Nat)(k:Nat):Prop:=∀(n0:Nat)(e:qu)(H:qe),enter cx f n0 r e H=qc2 s k n0 e H
abbrev qv[MaxL][TxtC](f r:Nat)(s:List Nat):Prop:=EN f r s 0
abbrev CV[MaxL][TxtC](f:Nat):Prop:=∀id,cx.cv f id=false
abbrev LP[MaxL][TxtC](f:Nat):Prop:=∀id,cx.lp f id=none
abbrev FA[MaxL][TxtC](f:Nat)(b p u:Bool):Prop:=cx.byRef f=b/\cx.perm f=p/\cx.pureF f=u
abbrev FZ[MaxL][TxtC](f:Nat)(b p u z:Bool):Prop:=FA f b p u/\cx.fzr f=z
abbrev qB[MaxL][TxtC](f r:Nat):Prop:=cx.lp f r=none
abbrev jt[MaxL][TxtC](f:Nat):Prop:=FZ f false false false true
abbrev vl[MaxL][TxtC](f:Nat):Prop:=FA f false false false
abbrev qeY[MaxL][TxtC](f:Nat):Prop:=cx.loc f=true
abbrev zO[MaxL][TxtC](f:Nat):Prop:=cx.gr f=true
abbrev qeX[MaxL][TxtC](f:Nat):Prop:=cx.lom f=false
abbrev KL[MaxL][TxtC](f:Nat):Prop:=FZ f true false false false
abbrev zy[MaxL][TxtC](f:Nat):Prop:=cx.loc f=false
abbrev zP[MaxL][TxtC](f:Nat):Prop:=FZ f true false false true
abbrev jo[MaxL][TxtC](f:Nat):Prop:=FZ f false false true true
abbrev KM[MaxL][TxtC](f:Nat):Prop:=FA f false false true
abbrev Vv[MaxL][TxtC](f:Nat):Prop:=cx.gr f=false
abbrev qcV[MaxL][TxtC](f:Nat):Prop:=FZ f false true false true
abbrev qbM[MaxL][TxtC](f:Nat):Prop:=FZ f false false false false
abbrev qjM[MaxL][TxtC](f:Nat):Prop:=FA f true false false
abbrev qga[MaxL][TxtC](f:Nat):Prop:=FZ f false true true true
section
variable [MaxL] [TxtC]
@[simp] theorem ng1:CV 3/\CV 5/\CV 6/\CV 7/\CV 8/\CV 9/\CV 10/\CV 11/\CV 12/\CV 13/\CV 14/\CV 15/\CV 16/\CV 17/\CV 18/\CV 19/\CV 20/\CV 23/\CV 24/\CV 25/\CV 26/\CV 27/\CV 28/\CV 29/\CV 30/\CV 31/\CV 32/\CV 33/\CV 34/\CV 35:=by and_intros<;>exact fun _=>rfl
@[simp] theorem ng2:CV 36/\CV 37/\CV 38/\CV 40/\CV 41/\CV 42/\CV 43/\CV 44/\CV 45/\CV 46/\CV 47/\CV 48/\CV 49/\CV 51/\CV 52/\CV 53/\CV 54/\CV 55/\CV 56/\CV 57/\CV 58/\CV 59/\CV 60/\CV 61/\CV 62/\CV 63/\CV 64/\CV 65/\CV 66/\CV 67:=by and_intros<;>exact fun _=>rfl
@[simp] theorem ng3:CV 68/\CV 69/\CV 70/\CV 71/\CV 72/\CV 73/\CV 74/\CV 75/\CV 76/\CV 77/\CV 78/\CV 79/\CV 80/\CV 81/\CV 82/\CV 83/\CV 84/\CV 85/\CV 86/\CV 87/\CV 88/\CV 91/\CV 92/\CV 93/\CV 94/\CV 97/\CV 98/\CV 99/\CV 100/\CV 101:=by and_intros<;>exact fun _=>rfl
@[simp] theorem ng4:CV 102/\CV 103/\CV 104/\CV 105/\CV 106/\CV 107/\CV 108/\CV 109/\CV 110/\CV 111/\CV 112/\CV 113/\CV 114/\CV 115/\CV 116/\CV 117/\CV 118/\CV 119/\CV 120/\CV 122/\CV 123/\CV 124/\CV 125/\CV 126/\CV 127/\CV 128/\CV 129/\CV 130/\CV 131/\CV 132:=by and_intros<;>exact fun _=>rfl
@[simp] theorem ng5:CV 133/\CV 134/\CV 146/\CV 147/\CV 155/\CV 156/\CV 157/\CV 158/\CV 159/\CV 160/\CV 161/\CV 162/\CV 163/\CV 164/\CV 165/\CV 166/\CV 167/\CV 169/\CV 170/\CV 171/\CV 172/\CV 173/\CV 174/\CV 175/\CV 176/\CV 177/\CV 178/\CV 180/\CV 181/\CV 182:=by and_intros<;>exact fun _=>rfl
@[simp] theorem ng6:CV 183/\CV 184/\CV 185/\CV 195/\CV 200/\CV 203/\CV 204/\CV 205/\CV 206/\CV 207/\CV 213/\CV 215/\CV 216/\CV 219/\CV 220/\CV 221/\CV 222/\CV 223/\CV 224/\CV 225/\CV 226/\CV 227/\CV 229/\CV 230/\CV 231/\CV 232/\CV 233/\CV 234/\CV 249/\CV 257:=by and_intros<;>exact fun _=>rfl
@[simp] theorem ng7:CV 258/\CV 259/\CV 260/\CV 261/\CV 262/\CV 263/\CV 264/\CV 265/\CV 266/\CV 274/\CV 275/\CV 276/\CV 277/\CV 278/\CV 279/\CV 280/\CV 283/\CV 284/\CV 285/\CV 288/\CV 289/\CV 290/\CV 291/\CV 294/\CV 295/\CV 296:=by and_intros<;>exact fun _=>rfl
@[simp] theorem qs1:qB 3 0/\qB 3 1/\qB 3 2/\qB 3 3/\qB 3 4/\qB 3 5/\qB 3 6/\qB 3 7/\qB 3 8/\qB 3 9/\qB 3 10/\qB 3 11/\qB 3 12/\qB 3 13/\qB 3 14/\qB 3 15/\qB 3 16/\qB 3 17/\qB 3 18/\qB 3 19/\qB 3 20/\qB 3 21/\qB 3 22/\qB 3 23/\qB 3 24/\qB 3 25/\qB 3 26/\qB 3 27/\qB 3 28/\qB 3 29/\qB 3 30/\qB 3 31/\qB 3 32/\qB 3 33/\qB 3 34/\qB 3 35:=wL
@[simp] theorem q91:cx.lp 3 36=some ([(14,8)],[]):=rfl
@[simp] theorem qs2:qB 3 37/\qB 3 38/\qB 3 39:=wL
@[simp] theorem ng8:LP 5/\LP 6/\LP 7/\LP 8/\LP 9/\LP 10/\LP 11/\LP 12/\LP 13/\LP 14/\LP 15/\LP 16/\LP 17/\LP 18/\LP 19:=by and_intros<;>exact fun _=>rfl
@[simp] theorem qs3:qB 20 0/\qB 20 1/\qB 20 2/\qB 20 3/\qB 20 4/\qB 20 5/\qB 20 6/\qB 20 7:=wL
@[simp] theorem q95:cx.lp 20 8=some ([(1,5)],[]):=rfl
@[simp] theorem qs4:qB 20 9/\qB 20 10/\qB 20 11/\qB 20 12/\qB 20 13/\qB 20 14/\qB 20 15/\qB 20 16:=wL
@[simp] theorem ng9:LP 23/\LP 24/\LP 25:=by and_intros<;>exact fun _=>rfl
@[simp] theorem qs5:qB 26 0/\qB 26 1:=wL
@[simp] theorem q92:cx.lp 26 2=some ([(2,0)],[]):=rfl
@[simp] theorem qs6:qB 26 3/\qB 26 4/\qB 26 5/\qB 26 6/\qB 26 7/\qB 26 8/\qB 26 9:=wL
@[simp] theorem q9o:LP 27/\LP 28/\LP 29/\LP 30/\LP 31/\LP 32/\LP 33/\LP 34/\LP 35/\LP 36/\LP 37/\LP 38/\LP 40/\LP 41/\LP 42/\LP 43/\LP 44/\LP 45/\LP 46/\LP 47/\LP 48/\LP 49/\LP 51/\LP 52/\LP 53:=by and_intros<;>exact fun _=>rfl
@[simp] theorem qs7:qB 54 0/\qB 54 1:=wL
@[simp] theorem q90:cx.lp 54 2=some ([(8,4)],[]):=rfl
@[simp] theorem qs8:qB 54 3:=wL
@[simp] theorem q9z:cx.lp 54 4=some ([(8,4)],[]):=rfl
@[simp] theorem qs9:qB 54 5/\qB 54 6/\qB 54 7/\qB 54 8/\qB 54 9/\qB 54 10/\qB 54 11/\qB 54 12/\qB 54 13/\qB 54 14/\qB 54 15/\qB 54 16:=wL
@[simp] theorem q9n:LP 55/\LP 56/\LP 57:=by and_intros<;>exact fun _=>rfl
@[simp] theorem q7Q:qB 58 0/\qB 58 1/\qB 58 2/\qB 58 3/\qB 58 4/\qB 58 5/\qB 58 6/\qB 58 7/\qB 58 8/\qB 58 9/\qB 58 10/\qB 58 11/\qB 58 12/\qB 58 13/\qB 58 14/\qB 58 15/\qB 58 16/\qB 58 17:=wL
@[simp] theorem q9y:cx.lp 58 18=some ([],[95]):=rfl
@[simp] theorem q7P:qB 58 19/\qB 58 20/\qB 58 21/\qB 58 22/\qB 58 23/\qB 58 24/\qB 58 25/\qB 58 26/\qB 58 27/\qB 58 28/\qB 58 29:=wL
@[simp] theorem q9x:cx.lp 58 30=some ([(20,16)],[]):=rfl
@[simp] theorem q7O:qB 58 31/\qB 58 32/\qB 58 33/\qB 58 34/\qB 58 35/\qB 58 36/\qB 58 37/\qB 58 38/\qB 58 39/\qB 58 40/\qB 58 41/\qB 58 42/\qB 58 43/\qB 58 44/\qB 58 45/\qB 58 46/\qB 58 47/\qB 58 48/\qB 58 49:=wL
@[simp] theorem q9w (id:Nat):cx.lp 59 id=none:=rfl
@[simp] theorem q7N:qB 60 0/\qB 60 1/\qB 60 2/\qB 60 3/\qB 60 4/\qB 60 5:=wL
@[simp] theorem q9v:cx.lp 60 6=some ([(5,7),(5,8)],[]):=rfl
@[simp] theorem q7M:qB 60 7:=wL
@[simp] theorem q9m:LP 61/\LP 62/\LP 63/\LP 64/\LP 65/\LP 66/\LP 67/\LP 68/\LP 69/\LP 70/\LP 71:=by and_intros<;>exact fun _=>rfl
@[simp] theorem q7L:qB 72 0/\qB 72 1/\qB 72 2/\qB 72 3/\qB 72 4/\qB 72 5/\qB 72 6/\qB 72 7:=wL
@[simp] theorem q9u:cx.lp 72 8=some ([(7,9),(12,9)],[]):=rfl
@[simp] theorem q7K:qB 72 9/\qB 72 10/\qB 72 11:=wL
@[simp] theorem q9l:LP 73/\LP 74/\LP 75/\LP 76/\LP 77/\LP 78/\LP 79/\LP 80:=by and_intros<;>exact fun _=>rfl
@[simp] theorem q7J:qB 81 0/\qB 81 1/\qB 81 2/\qB 81 3/\qB 81 4/\qB 81 5/\qB 81 6/\qB 81 7/\qB 81 8/\qB 81 9/\qB 81 10:=wL
@[simp] theorem q9t:cx.lp 81 11=some ([(8,5)],[]):=rfl
@[simp] theorem q9k:LP 82/\LP 83/\LP 84/\LP 85/\LP 86/\LP 87/\LP 88/\LP 91/\LP 92/\LP 93/\LP 94/\LP 97/\LP 98/\LP 99/\LP 100/\LP 101/\LP 102/\LP 103/\LP 104/\LP 105/\LP 106/\LP 107/\LP 108/\LP 109/\LP 110/\LP 111/\LP 112/\LP 113/\LP 114/\LP 115:=by and_intros<;>exact fun _=>rfl
@[simp] theorem q9j:LP 116/\LP 117/\LP 118/\LP 119/\LP 120/\LP 122/\LP 123/\LP 124/\LP 125/\LP 126/\LP 127/\LP 128/\LP 129/\LP 130/\LP 131/\LP 132/\LP 133/\LP 134/\LP 146/\LP 147/\LP 155/\LP 156/\LP 157:=by and_intros<;>exact fun _=>rfl
@[simp] theorem q7I:qB 158 0:=wL
@[simp] theorem q97:cx.lp 158 1=some ([(7,4)],[]):=rfl
@[simp] theorem q9i:LP 159/\LP 160:=by and_intros<;>exact fun _=>rfl
@[simp] theorem q7H:qB 161 0/\qB 161 1/\qB 161 2/\qB 161 3/\qB 161 4/\qB 161 5/\qB 161 6/\qB 161 7/\qB 161 8:=wL
@[simp] theorem q96:cx.lp 161 9=some ([(18,4)],[]):=rfl
@[simp] theorem q7G:qB 161 10/\qB 161 11/\qB 161 12:=wL
@[simp] theorem q9h:LP 162/\LP 163/\LP 164/\LP 165/\LP 166/\LP 167/\LP 169/\LP 170/\LP 171/\LP 172/\LP 173/\LP 174/\LP 175/\LP 176/\LP 177/\LP 178/\LP 180/\LP 181/\LP 182/\LP 183/\LP 184/\LP 185/\LP 195/\LP 200/\LP 203/\LP 204/\LP 205/\LP 206/\LP 207/\LP 213:=by and_intros<;>exact fun _=>rfl
@[simp] theorem q9g:LP 215/\LP 216/\LP 219/\LP 220/\LP 221:=by and_intros<;>exact fun _=>rfl
@[simp] theorem q7F:qB 222 0:=wL
@[simp] theorem q94:cx.lp 222 1=some ([],[15]):=rfl
@[simp] theorem q7E:qB 223 0:=wL
@[simp] theorem q93:cx.lp 223 1=some ([],[66]):=rfl
@[simp] theorem q9e:LP 224/\LP 225/\LP 226/\LP 227/\LP 229/\LP 230/\LP 231/\LP 232/\LP 233/\LP 234/\LP 249/\LP 257/\LP 258/\LP 259/\LP 260/\LP 261/\LP 262/\LP 263/\LP 264/\LP 265/\LP 266/\LP 274/\LP 275/\LP 276/\LP 277/\LP 278/\LP 279/\LP 280/\LP 283/\LP 284:=by and_intros<;>exact fun _=>rfl
@[simp] theorem q9d:LP 285/\LP 288/\LP 289/\LP 290/\LP 291/\LP 294/\LP 295/\LP 296:=by and_intros<;>exact fun _=>rfl
end
def qlR[MaxL][TxtC]:Prop:=∀{f:Nat}{args:List D}{H:qe}{r:D}{H':qe},TxtC.t f args H=some (r,H')->∀{ok:Nat->Prop}{w:World}{ι:qV}{vs:List Value},Sim cx ok w ι H->RepL ok w ι H args vs->Goes cx.P (callFunc f vs.toArray) w (CallPost cx ok w ι H r H')
section
variable [MaxL] [TxtC]
@[simp] theorem cxP:cx.P=Tryz.prog:=rfl
@[simp] theorem cxD:cx.dynV=false:=rfl
@[simp] theorem gl1:cx.glob 1=some gd1:=rfl
@[simp] theorem gl2:cx.glob 2=some [.iface 375 (.vptr [.str gs2])]:=rfl
@[simp] theorem gl3:cx.glob 3=some [.iface 375 (.vptr [.str gs3])]:=rfl
@[simp] theorem gl6:cx.glob 6=some gd6:=rfl
@[simp] theorem gl7:cx.glob 7=some gd7:=rfl
@[simp] theorem q7D:jt 3/\vl 4/\jt 5/\jt 6/\qeY 7/\zO 7/\qeX 7/\KL 7/\zy 8:=wL
@[simp] theorem gr8:cx.gr 8=true:=rfl
@[simp] theorem q7C:KL 8/\jt 9/\zy 10/\zO 10/\zP 10/\jt 11/\jt 12/\zy 13/\zO 13/\zP 13/\zy 14/\zO 14/\zP 14/\zy 15/\zO 15/\zP 15/\zy 16/\zO 16/\zP 16/\jo 17/\jo 18/\zy 19/\zO 19/\zP 19/\zy 20/\zO 20/\zP 20/\KM 21/\vl 22/\jo 23/\jo 24/\qeY 25/\Vv 25/\qeX 25/\zP 25/\zy 26/\zO 26/\KL 26/\qcV 27/\zy 28:=wL
@[simp] theorem q7B:zO 28/\zP 28/\zy 29/\zO 29/\zP 29/\jo 30/\qbM 31/\jt 32/\zy 33/\zO 33/\KL 33/\zy 34/\zO 34/\zP 34/\jt 35/\jo 36/\jo 37/\jo 38/\qjM 39/\zy 39/\Vv 39/\zy 40/\zO 40/\KL 40/\zy 41/\zO 41/\zP 41/\jo 42/\jo 43/\zy 44/\zO 44/\zP 44/\zy 45/\zO 45/\zP 45/\qbM 46/\zy 47/\zO 47/\KL 47/\zy 48:=wL
@[simp] theorem q7A:zO 48/\zP 48/\zy 49/\zO 49/\zP 49/\KM 50/\jo 51/\jo 52/\zy 53/\zO 53/\zP 53/\zy 54/\zO 54/\KL 54/\qeY 55/\Vv 55/\qeX 55/\zP 55/\qeY 56/\Vv 56/\qeX 56/\zP 56/\zy 57/\zO 57/\zP 57/\zy 58/\zO 58/\zP 58/\qbM 59/\qbM 60/\jo 61/\jo 62/\jo 63/\jt 64/\jo 65/\jo 66/\jt 67/\jt 68/\jt 69/\zy 70:=wL
@[simp] theorem q79:zO 70/\zP 70/\zy 71/\zO 71/\zP 71/\zy 72/\zO 72/\zP 72/\zy 73/\zO 73/\zP 73/\zy 74/\zO 74/\zP 74/\zy 75/\zO 75/\zP 75/\jo 76/\zy 77/\zO 77/\KL 77/\zy 78/\zO 78/\zP 78/\zy 79/\zO 79/\zP 79/\zy 80/\zO 80/\zP 80/\zy 81/\zO 81/\KL 81/\jo 82/\zy 83/\zO 83/\KL 83/\zy 84/\zO 84/\zP 84:=wL
@[simp] theorem q78:jt 85/\jt 86/\jt 87/\jo 88/\vl 90/\zy 91/\zO 91/\zP 91/\zy 92/\zO 92/\KL 92/\qbM 93/\jo 94/\KM 95/\KM 96/\qcV 97/\jt 98/\qeY 99/\Vv 99/\qeX 99/\zP 99/\zy 100/\zO 100/\KL 100/\zy 101/\zO 101/\zP 101/\qga 102/\zy 103/\zO 103/\zP 103/\qcV 104/\qga 105/\zy 106/\zO 106/\zP 106/\zy 107/\zO 107/\zP 107/\jt 108:=wL
@[simp] theorem q77:qbM 109/\jt 110/\jt 111/\jt 112/\jt 113/\jo 114/\jo 115/\jt 116/\jo 117/\jo 118/\zy 119/\zO 119/\zP 119/\zy 120/\zO 120/\zP 120/\vl 121/\qbM 122/\zy 123/\zO 123/\zP 123/\jt 124/\zy 125/\zO 125/\zP 125/\jt 126/\zy 127/\zO 127/\zP 127/\zy 128/\zO 128/\zP 128/\zy 129/\zO 129/\zP 129/\jt 130/\jo 131/\qbM 132/\zy 133/\Vv 133:=wL
@[simp] theorem q75:zP 133/\jo 134/\vl 144/\KM 145/\jo 146/\jo 147/\KM 154/\qcV 155/\jo 156/\jo 157/\qeY 158/\Vv 158/\qeX 158/\zP 158/\qcV 159/\zy 160/\zO 160/\zP 160/\zy 161/\zO 161/\zP 161/\qga 162/\jo 163/\jo 164/\jo 165/\qcV 166/\jt 167/\vl 168/\jo 169/\jo 170/\jo 171/\jt 172/\jt 173/\jt 174/\jt 175/\jo 176/\jo 177/\jt 178/\qjM 179/\zy 179:=wL
@[simp] theorem q74:Vv 179/\zy 180/\Vv 180/\zP 180/\jt 181/\zy 182/\zO 182/\zP 182/\zy 183/\zO 183/\zP 183/\zy 184/\zO 184/\zP 184/\zy 185/\Vv 185/\zP 185/\vl 187/\vl 188/\KM 192/\KM 193/\qjM 194/\zy 194/\Vv 194/\jo 195/\jo 200/\vl 201/\vl 202/\qcV 203/\jo 204/\jo 205/\jo 206/\jo 207/\vl 208/\vl 209/\vl 210/\vl 211/\vl 212/\jo 213/\vl 214:=wL
@[simp] theorem q73:jt 215/\jt 216/\vl 217/\vl 218/\jt 219/\jt 220/\qga 221/\zy 222/\zO 222/\KL 222/\zy 223/\zO 223/\KL 223/\zy 224/\Vv 224/\zP 224/\jt 225/\jt 226/\jt 227/\vl 228/\jt 229/\jt 230/\jt 231/\qga 232/\zy 233/\zO 233/\zP 233/\zy 234/\Vv 234/\zP 234/\vl 235/\vl 236/\vl 237/\vl 238/\vl 239/\vl 240/\vl 241/\KM 243/\KM 244/\KM 245:=wL
@[simp] theorem q72:KM 246/\jo 249/\vl 250/\vl 252/\KM 254/\vl 255/\vl 256/\jo 257/\jt 258/\jt 259/\jt 260/\jt 261/\jo 262/\qcV 263/\jo 264/\jt 265/\zy 266/\zO 266/\zP 266/\vl 267/\vl 268/\vl 269/\vl 270/\KM 271/\vl 273/\jo 274/\jt 275/\jo 276/\jo 277/\zy 278/\Vv 278/\zP 278/\zy 279/\Vv 279/\zP 279/\zy 280/\Vv 280/\zP 280/\vl 281/\vl 282:=wL
@[simp] theorem q71:jt 283/\jt 284/\jo 285/\vl 287/\jt 288/\qbM 289/\zy 290/\zO 290/\zP 290/\zy 291/\zO 291/\zP 291/\vl 292/\vl 293/\zy 294/\zO 294/\zP 294/\zy 295/\zO 295/\zP 295/\jt 296:=wL
end
theorem qug[MaxL][TxtC](args:List D):cx.ext 121 args=qf0 args:=rfl
theorem que[MaxL][TxtC](args:List D):cx.ext 212 args=qgt args:=rfl
theorem quf[MaxL][TxtC](args:List D):cx.ext 210 args=qgI args:=rfl
theorem qud[MaxL][TxtC](args:List D):cx.ext 292 args=qes args:=rfl
theorem qvd[MaxL][TxtC](args:List D)(H:qe):cx.con 211 args H=qgF args H:=rfl
theorem qvc[MaxL][TxtC](args:List D)(H:qe):cx.con 254 args H=qgG args H:=rfl
theorem qva[MaxL][TxtC](args:List D)(H:qe):cx.con 95 args H=qgE args H:=rfl
theorem q53[MaxL][TxtC](args:List D)(H:qe):cx.con 179 args H=TxtC.t 179 args H:=rfl
theorem qvb[MaxL][TxtC](args:List D)(H:qe):cx.con 39 args H=qgD args H:=rfl
end Go.Ev.S
namespace Go.Ev.S
open Go Go.Proofs Go.Ev
@[simp] theorem q9c [MaxL] [TxtC]:EK 3 kl3/\EK 5 kl5/\EK 6 kl6/\EK 7 kl7/\EK 8 kl8/\EK 9 kl9/\EK 10 qsv/\EK 11 qsn:=by and_intros<;>exact fun _ _ _ _=>rfl
@[simp] theorem q9b [MaxL] [TxtC]:qv 12 0 [0,1]/\qv 12 1 [0,3]/\qv 12 2 []/\qv 12 3 [0,3]/\qv 12 4 [0,3,7]/\qv 12 5 []/\qv 12 6 [0,3]/\qv 12 7 [0,3,8]:=by and_intros<;>exact fun _ _ _=>rfl
@[simp] theorem qAc [MaxL] [TxtC] (n0:Nat) (e:qu) (H:qe):enter cx 12 n0 8 e H=VA [] [3,8] [0,9] n0 e H:=rfl
@[simp] theorem qAb [MaxL] [TxtC] (n0:Nat) (e:qu) (H:qe):enter cx 12 n0 9 e H=qc2 [0,3,8,9,10] 0 n0 e H:=rfl
@[simp] theorem qAd [MaxL] [TxtC] (n0:Nat) (e:qu) (H:qe):enter cx 12 n0 10 e H=VA [] [3,8] [0,9,10] n0 e H:=rfl
@[simp] theorem q9a [MaxL] [TxtC]:qv 12 11 [0,3,8,9,10]/\qv 12 12 [0,3,8,9,10,11]/\qv 12 13 [0,3,8,10,11]/\qv 12 14 [0,3,8,9,10,11]/\qv 12 15 [0,3,8,9,10,11]/\qv 12 16 [0,3,8,9,10]/\qv 12 17 [3,8,9]/\qv 12 18 [3,8]/\qv 12 19 [8]:=by and_intros<;>exact fun _ _ _=>rfl
@[simp] theorem q8Z [MaxL] [TxtC]:EK 13 qrS/\EK 14 qrM/\EK 15 qrJ/\EK 16 qrE/\EK 17 qr5/\EK 18 qrv/\EK 19 qrp:=by and_intros<;>exact fun _ _ _ _=>rfl
@[simp] theorem q8Y [MaxL] [TxtC]:qv 20 0 [0,1,2,3]/\qv 20 1 [0,1,2,3]/\qv 20 2 [0,2,3,9,10]/\qv 20 3 [10]/\qv 20 4 [0,2,3,9]/\qv 20 5 [0,2,3,9,11]/\qv 20 6 [0,9,11,12]/\qv 20 7 [12]:=by and_intros<;>exact fun _ _ _=>rfl
@[simp] theorem q9W [MaxL] [TxtC] (n0:Nat) (e:qu) (H:qe):enter cx 20 n0 8 e H=qis [11] (qc2 [0,9,11] 0 n0 e) e H:=rfl
@[simp] theorem q8X [MaxL] [TxtC]:qv 20 9 [0,9,11,13]/\qv 20 10 [0,9,11,13,15]/\qv 20 11 []/\qv 20 12 [0,9,11]/\qv 20 13 [9,11,16]/\qv 20 14 [16]/\qv 20 15 [9,11]/\qv 20 16 []:=by and_intros<;>exact fun _ _ _=>rfl
@[simp] theorem q8W [MaxL] [TxtC]:EK 23 qqS/\EK 24 qqL/\EK 25 qqJ/\EK 26 qqF/\EK 27 qq8/\EK 28 qq1/\EK 29 qqv/\EK 30 qqo/\EK 31 qqn/\EK 32 qqm/\EK 33 qql/\EK 34 qqk/\EK 35 qqj/\EK 36 qqi/\EK 37 qqh/\EK 38 qqg/\EK 40 qqf/\EK 41 qqe:=by and_intros<;>exact fun _ _ _ _=>rfl
@[simp] theorem q8U [MaxL] [TxtC]:qv 42 0 [0]/\qv 42 1 [1]/\qv 42 2 [1,3]:=by and_intros<;>exact fun _ _ _=>rfl
@[simp] theorem q9P [MaxL] [TxtC] (n0:Nat) (e:qu) (H:qe):enter cx 42 n0 3 e H=VA [] [3] [6,7] n0 e H:=rfl
@[simp] theorem q8T [MaxL] [TxtC]:qv 42 4 [3,6,7]/\qv 42 5 [3,5,6,7]/\qv 42 6 [3,6,7]/\qv 42 7 [3]:=by and_intros<;>exact fun _ _ _=>rfl
@[simp] theorem q8S [MaxL] [TxtC]:EK 43 qqd/\EK 44 qqc/\EK 45 qqb/\EK 46 qqa/\EK 47 qpZ/\EK 48 qpY/\EK 49 qpX/\EK 51 qpV/\EK 52 qpU/\EK 53 qpT/\EK 54 qpS/\EK 55 qpR/\EK 56 qpQ/\EK 57 qpP:=by and_intros<;>exact fun _ _ _ _=>rfl
@[simp] theorem q8R [MaxL] [TxtC]:qv 58 0 [0,1,2,3,4]/\qv 58 1 [0,1,2,3,9]/\qv 58 2 [0,2,3,9,12,13]/\qv 58 3 [13]/\qv 58 4 [0,2,3,9,12]/\qv 58 5 []/\qv 58 6 [0,2,3,9,12]/\qv 58 7 [0,2,3,9,12,14]/\qv 58 8 [0,2,3,9,12,14,15]/\qv 58 9 [0,2,3,9,12,14,15,16]/\qv 58 10 [0,2,3,9,12,14,15,16,17]/\qv 58 11 [0,2,3,9,12,14,15,16,17,18]/\qv 58 12 [0,2,3,9,12,14,15,16,17,18]/\qv 58 13 [0,2,3,9,12,14,15,16,17,18]/\qv 58 14 [0,2,3,9,12,14,15,16,17,18,19]:=by and_intros<;>exact fun _ _ _=>rfl
@[simp] theorem q9O [MaxL] [TxtC] (n0:Nat) (e:qu) (H:qe):enter cx 58 n0 15 e H=qis [17] (qfv [16] [0,2,3,9,12,14,15,16,17,18,19] 0 n0 e) e H:=rfl
@[simp] theorem q8Q [MaxL] [TxtC]:qv 58 16 [0,2,3,9,12,14,15,16,17,18,19,20]/\qv 58 17 [0,2,3,9,12,14,15,16,17,18,19,20]/\qv 58 18 [0,2,3,9,12,14,15,16,17,18,19,20]:=by and_intros<;>exact fun _ _ _=>rfl
@[simp] theorem q9N [MaxL] [TxtC] (n0:Nat) (e:qu) (H:qe):enter cx 58 n0 19 e H=qfv [16,17] [0,2,3,9,14,15,16,17] 0 n0 e H:=rfl
@[simp] theorem q8P [MaxL] [TxtC]:qv 58 20 [0,2,3,9,14,15,16,17,21]/\qv 58 21 [0,2,3,9,14,15,16,17,21]/\qv 58 22 [0,2,3,9,14,15,16,17,21]/\qv 58 23 [0,2,3,9,14,15,16,17,21,22]:=by and_intros<;>exact fun _ _ _=>rfl
@[simp] theorem q9M [MaxL] [TxtC] (n0:Nat) (e:qu) (H:qe):enter cx 58 n0 24 e H=qfv [15] [0,2,3,9,14,15,16,17] 0 n0 e H:=rfl
@[simp] theorem q8O [MaxL] [TxtC]:qv 58 25 [0,2,3,9,14,15,16,17,23]/\qv 58 26 [0,2,3,9,14,16,23,24]/\qv 58 27 [0,2,3,9,14,16,23,24]/\qv 58 28 [0,2,3,9,14,16,23,24,26]/\qv 58 29 [0,2,3,9,14,16,23,24,25,26]/\qv 58 30 [0,2,3,9,14,16,23,24,25,26]/\qv 58 31 [0,2,3,9,14,16,23,24,26]/\qv 58 32 [0,2,3,9,14,16,23,24,26,27]/\qv 58 33 [0,2,3,9,14,16,23,24,26,27]/\qv 58 34 [0,2,3,9,14,16,23,24,26,27]/\qv 58 35 [0,2,3,9,14,16,23,24,26,27,28]/\qv 58 36 [0,2,3,9,14,16,23,24,26,27,28]/\qv 58 37 [0,2,3,9,14,16,23,24,26,27,28]/\qv 58 38 [0,2,3,9,14,16,23,24,26,27,28]/\qv 58 39 [0,2,3,9,14,16,23,24,26,27,28]/\qv 58 40 [0,2,3,9,14,16,23,24,26,27,28]/\qv 58 41 [0,2,3,9,14,23,24,26]/\qv 58 42 [0,14]/\qv 58 43 []/\qv 58 44 [0,2,3,9,23,24,26]/\qv 58 45 [0,2,3,9,23,24]/\qv 58 46 [0,2,3,9,23,24]/\qv 58 47 [0,2,3,9,23,24]/\qv 58 48 [0,9,23,24]/\qv 58 49 [23]:=by and_intros<;>exact fun _ _ _=>rfl
@[simp] theorem q8N [MaxL] [TxtC]:EK 59 qpO/\EK 60 qpM/\EK 61 qpL/\EK 62 qpK/\EK 63 qpJ/\EK 64 qpI/\EK 65 qpH/\EK 66 qpG/\EK 67 qpF/\EK 68 qpE/\EK 69 qpD/\EK 70 qpB/\EK 71 qpA:=by and_intros<;>exact fun _ _ _ _=>rfl
@[simp] theorem q8M [MaxL] [TxtC]:qv 72 0 [0]/\qv 72 1 [0]/\qv 72 2 [0]/\qv 72 3 [0,3]/\qv 72 4 [0,3,16,17]/\qv 72 5 [0,3,16,17]/\qv 72 6 [0,3,4,16,17]/\qv 72 7 [0,3,4,5,6,16,17]/\qv 72 8 [0,4,5,16,17]/\qv 72 9 [0,3,16,17]/\qv 72 10 [0]:=by and_intros<;>exact fun _ _ _=>rfl
@[simp] theorem q9L [MaxL] [TxtC] (n0:Nat) (e:qu) (H:qe):enter cx 72 n0 11 e H=qis [0] (qc2 [0] 0 n0 e) e H:=rfl
@[simp] theorem q8L [MaxL] [TxtC]:EK 73 qp9/\EK 74 qp8/\EK 75 qp7/\EK 76 qp6/\EK 77 qp5/\EK 78 qp4/\EK 79 qp3/\EK 80 qp1/\EK 81 qp0/\EK 82 qpz/\EK 83 qpy/\EK 84 qpx/\EK 85 qpw/\EK 86 qpv/\EK 87 qpu/\EK 88 qpt/\EK 91 qpr/\EK 92 qpq/\EK 93 qpp/\EK 94 qpo:=by and_intros<;>exact fun _ _ _ _=>rfl
@[simp] theorem q8J [MaxL] [TxtC]:qv 97 0 [0,1]/\qv 97 1 [0,1]/\qv 97 2 []/\qv 97 3 [0,1]/\qv 97 4 [0,1,5]:=by and_intros<;>exact fun _ _ _=>rfl
@[simp] theorem q9K [MaxL] [TxtC] (n0:Nat) (e:qu) (H:qe):enter cx 97 n0 5 e H=VA [] [5] [0,1,6] n0 e H:=rfl
@[simp] theorem q8I [MaxL] [TxtC]:qv 97 6 [0,1,5,6]/\qv 97 7 [0,1,5,6]/\qv 97 8 [0,5]:=by and_intros<;>exact fun _ _ _=>rfl
@[simp] theorem q8H [MaxL] [TxtC]:qv 98 0 [0]/\qv 98 1 [0]/\qv 98 2 []/\qv 98 3 [0]/\qv 98 4 [0,4]:=by and_intros<;>exact fun _ _ _=>rfl
@[simp] theorem q9J [MaxL] [TxtC] (n0:Nat) (e:qu) (H:qe):enter cx 98 n0 5 e H=VA [] [4] [0,5] n0 e H:=rfl
@[simp] theorem q8G [MaxL] [TxtC]:qv 98 6 [0,4,5]/\qv 98 7 [0,4,5]/\qv 98 8 [0,4,5,7]/\qv 98 9 [7]/\qv 98 10 [0,4,5]/\qv 98 11 [0,4,5,8]/\qv 98 12 [0,4,5,8]/\qv 98 13 [0,4,5,8]/\qv 98 14 [0,4,5,8]/\qv 98 15 [0,4,5,8]/\qv 98 16 [0,4,5,8,9]/\qv 98 17 [0,4,5,8,9]/\qv 98 18 [0,4,5,8,9]/\qv 98 19 [0,4,5,8]/\qv 98 20 [4]/\qv 98 21 []/\qv 98 22 [4]:=by and_intros<;>exact fun _ _ _=>rfl
@[simp] theorem q8F [MaxL] [TxtC]:qv 99 0 [0,1]/\qv 99 1 [0,1]/\qv 99 2 [0,1,5]:=by and_intros<;>exact fun _ _ _=>rfl
@[simp] theorem q9I [MaxL] [TxtC] (n0:Nat) (e:qu) (H:qe):enter cx 99 n0 3 e H=VA [] [5] [0,6] n0 e H:=rfl
@[simp] theorem q8E [MaxL] [TxtC]:qv 99 4 [0,5,6]/\qv 99 5 [0,5,6]/\qv 99 6 [5]:=by and_intros<;>exact fun _ _ _=>rfl
@[simp] theorem q8D [MaxL] [TxtC]:EK 100 qsu/\EK 101 qst/\EK 102 qss/\EK 103 qsr:=by and_intros<;>exact fun _ _ _ _=>rfl
@[simp] theorem q8C [MaxL] [TxtC]:qv 104 0 [0]/\qv 104 1 [1]/\qv 104 2 [1,3]/\qv 104 3 [1,3]:=by and_intros<;>exact fun _ _ _=>rfl
@[simp] theorem qAg [MaxL] [TxtC] (n0:Nat) (e:qu) (H:qe):enter cx 104 n0 4 e H=VA [] [1,3] [4] n0 e H:=rfl
@[simp] theorem q8B [MaxL] [TxtC]:qv 104 5 [1,3,4]/\qv 104 6 [1,3,4]/\qv 104 7 [3]:=by and_intros<;>exact fun _ _ _=>rfl
@[simp] theorem q8A [MaxL] [TxtC]:EK 105 qsq/\EK 106 qsp/\EK 107 qso:=by and_intros<;>exact fun _ _ _ _=>rfl
@[simp] theorem q88 [MaxL] [TxtC]:qv 108 0 [0,1]/\qv 108 1 [0,1]/\qv 108 2 [0,1,5]/\qv 108 3 [0,1,5,6]:=by and_intros<;>exact fun _ _ _=>rfl
@[simp] theorem qAf [MaxL] [TxtC] (n0:Nat) (e:qu) (H:qe):enter cx 108 n0 4 e H=VA [] [5] [0,1,6] n0 e H:=rfl
@[simp] theorem q87 [MaxL] [TxtC]:qv 108 5 [0,1,5,6]/\qv 108 6 [0,1,5,6]/\qv 108 7 [5]:=by and_intros<;>exact fun _ _ _=>rfl
@[simp] theorem q86 [MaxL] [TxtC]:qv 109 0 [0]/\qv 109 1 [0]/\qv 109 2 [0,3]/\qv 109 3 [0,3,4]:=by and_intros<;>exact fun _ _ _=>rfl
@[simp] theorem qAe [MaxL] [TxtC] (n0:Nat) (e:qu) (H:qe):enter cx 109 n0 4 e H=VA [] [3] [0,4] n0 e H:=rfl
@[simp] theorem q85 [MaxL] [TxtC]:qv 109 5 [0,3,4]/\qv 109 6 [3]:=by and_intros<;>exact fun _ _ _=>rfl
@[simp] theorem q84 [MaxL] [TxtC]:EK 110 qsm/\EK 111 qsl/\EK 112 qsk/\EK 113 qsi/\EK 114 qsh/\EK 115 qsg/\EK 116 qsf/\EK 117 qse/\EK 118 qsd/\EK 119 qsc/\EK 120 qsb/\EK 122 qsa/\EK 123 qrZ/\EK 124 qrY/\EK 125 qrX/\EK 126 qrW/\EK 127 qrV/\EK 128 qrU/\EK 129 qrT/\EK 130 qrR/\EK 131 qrQ/\EK 132 qrP/\EK 133 qrO/\EK 134 qrN/\EK 146 qrL/\EK 147 qrK:=by and_intros<;>exact fun _ _ _ _=>rfl
@[simp] theorem q83 [MaxL] [TxtC]:qv 155 0 [0,1]/\qv 155 1 [0,1]/\qv 155 2 []/\qv 155 3 [0,1]/\qv 155 4 [1,5]:=by and_intros<;>exact fun _ _ _=>rfl
@[simp] theorem qAa [MaxL] [TxtC] (n0:Nat) (e:qu) (H:qe):enter cx 155 n0 5 e H=VA [] [5] [] n0 e H:=rfl
@[simp] theorem q82 [MaxL] [TxtC]:qv 155 6 [5]/\qv 155 7 [5]:=by and_intros<;>exact fun _ _ _=>rfl
@[simp] theorem q81 [MaxL] [TxtC]:EK 156 qrI/\EK 157 qrH/\EK 158 qrG/\EK 159 qrF/\EK 160 qrD/\EK 161 qrC/\EK 162 qrB:=by and_intros<;>exact fun _ _ _ _=>rfl
@[simp] theorem q9Z [MaxL] [TxtC] (n0:Nat) (e:qu) (H:qe):enter cx 163 n0 0 e H=qc2 [0,1] 0 n0 e H:=rfl
@[simp] theorem q9Y [MaxL] [TxtC] (n0:Nat) (e:qu) (H:qe):enter cx 163 n0 1 e H=qfv [2] [1,2] 0 n0 e H:=rfl
@[simp] theorem q80 [MaxL] [TxtC]:qv 163 2 [1,5,6]/\qv 163 3 [1,7]/\qv 163 4 [1,7,8]/\qv 163 5 [1,7,8]/\qv 163 6 [1,7,8,9]/\qv 163 7 [1,7,8,9]/\qv 163 8 [1,7,8,9]/\qv 163 9 [1,7,8]/\qv 163 10 [1,7,8]/\qv 163 11 [7,10]/\qv 163 12 [7,10]/\qv 163 13 [7,10]/\qv 163 14 [7]/\qv 163 15 [7]/\qv 163 16 [7]:=by and_intros<;>exact fun _ _ _=>rfl
@[simp] theorem q8y [MaxL] [TxtC]:EK 164 qrA/\EK 165 qr9/\EK 166 qr8/\EK 167 qr7/\EK 169 qr6/\EK 170 qr4/\EK 171 qr3/\EK 172 qr2/\EK 173 qr1/\EK 174 qr0/\EK 175 qrz/\EK 176 qry/\EK 177 qrx/\EK 178 qrw/\EK 180 qru:=by and_intros<;>exact fun _ _ _ _=>rfl
@[simp] theorem q8x [MaxL] [TxtC]:qv 181 0 [0,1]/\qv 181 1 [0,1,4]/\qv 181 2 [0,4,5]/\qv 181 3 [0,4,5,6]/\qv 181 4 [0,4,5,6]/\qv 181 5 [0,4,5,6]/\qv 181 6 [0,4,5,6,7]/\qv 181 7 [0,4,5,6,7,32,33,34]/\qv 181 8 [0,4,5,6,7,32,33,34]/\qv 181 9 [0,4,5,6,7,9,32,33,34]/\qv 181 10 [0,4,5,6,7,9,10,32,33,34]/\qv 181 11 [0,4,5,6,7,10,32,33,34]/\qv 181 12 [0,4,5,6,7,10,32,33,34]/\qv 181 13 [0,4,5,6,7,10,11,12,32,33,34]/\qv 181 14 [0,4,5,6,7,10,11,32,33,34]/\qv 181 15 [0,4,5,6,7,10,32,33,34]:=by and_intros<;>exact fun _ _ _=>rfl
@[simp] theorem q9X [MaxL] [TxtC] (n0:Nat) (e:qu) (H:qe):enter cx 181 n0 16 e H=VA [] [4,5,6,7] [0,32,33,34] n0 e H:=rfl
@[simp] theorem q8w [MaxL] [TxtC]:qv 181 17 [4,5,6,7]/\qv 181 18 [4,6]/\qv 181 19 [4,6]:=by and_intros<;>exact fun _ _ _=>rfl
@[simp] theorem q8v [MaxL] [TxtC]:EK 182 qrt/\EK 183 qrs/\EK 184 qrr/\EK 185 qrq/\EK 195 qro/\EK 200 qrn/\EK 203 qrm/\EK 204 qrl/\EK 205 qrk/\EK 206 qrj/\EK 207 qri/\EK 213 qrh/\EK 215 qrg/\EK 216 qrf/\EK 219 qre/\EK 220 qrd/\EK 221 qrc/\EK 222 qrb/\EK 223 qra/\EK 224 qqZ/\EK 225 qqY/\EK 226 qqX/\EK 227 qqW/\EK 229 qqV/\EK 230 qqR/\EK 231 qqQ/\EK 232 qqP/\EK 233 qqO/\EK 234 qqM/\EK 249 qqK/\EK 257 qqI/\EK 258 qqH:=by and_intros<;>exact fun _ _ _ _=>rfl
@[simp] theorem q8u [MaxL] [TxtC]:qv 259 0 [0]/\qv 259 1 [0]/\qv 259 2 [0,3]/\qv 259 3 [0,3,4]:=by and_intros<;>exact fun _ _ _=>rfl
@[simp] theorem q9V [MaxL] [TxtC] (n0:Nat) (e:qu) (H:qe):enter cx 259 n0 4 e H=VA [] [3] [0,4] n0 e H:=rfl
@[simp] theorem q8t [MaxL] [TxtC]:qv 259 5 [0,3,4]/\qv 259 6 [0,3,4,5]/\qv 259 7 [3]:=by and_intros<;>exact fun _ _ _=>rfl
@[simp] theorem q8s [MaxL] [TxtC]:qv 260 0 [0,1]/\qv 260 1 [0,1,4]/\qv 260 2 [4,6,7]/\qv 260 3 [4,7]/\qv 260 4 [4,6]/\qv 260 5 [4,6,8]/\qv 260 6 [4,6,8,9]/\qv 260 7 [4,8,9]/\qv 260 8 [4,8,9,10]:=by and_intros<;>exact fun _ _ _=>rfl
@[simp] theorem q9U [MaxL] [TxtC] (n0:Nat) (e:qu) (H:qe):enter cx 260 n0 9 e H=VA [] [4,9] [8,10] n0 e H:=rfl
@[simp] theorem q8r [MaxL] [TxtC]:qv 260 10 [4,8,9,10]/\qv 260 11 [4,9]/\qv 260 12 [4]/\qv 260 13 [4,9]/\qv 260 14 [4,9,11]/\qv 260 15 [4,9,11]/\qv 260 16 [4,9,11]/\qv 260 17 [4]/\qv 260 18 [4,9]:=by and_intros<;>exact fun _ _ _=>rfl
@[simp] theorem q8q [MaxL] [TxtC]:EK 261 qqE/\EK 262 qqD/\EK 263 qqB/\EK 264 qqA:=by and_intros<;>exact fun _ _ _ _=>rfl
@[simp] theorem q8p [MaxL] [TxtC]:qv 265 0 [0]/\qv 265 1 [0]/\qv 265 2 [0,3]/\qv 265 3 [0,4]/\qv 265 4 [0,4]/\qv 265 5 [0,4]/\qv 265 6 [0,4]/\qv 265 7 [0,4]/\qv 265 8 [0,4]/\qv 265 9 [0,4,5]:=by and_intros<;>exact fun _ _ _=>rfl
@[simp] theorem q9T [MaxL] [TxtC] (n0:Nat) (e:qu) (H:qe):enter cx 265 n0 10 e H=qfv [5] [4,5] 0 n0 e H:=rfl
@[simp] theorem q8n [MaxL] [TxtC]:qv 265 11 [4]/\qv 265 12 [4]:=by and_intros<;>exact fun _ _ _=>rfl
@[simp] theorem q8m [MaxL] [TxtC]:EK 266 qq9/\EK 274 qq7/\EK 275 qq6/\EK 276 qq5/\EK 277 qq4/\EK 278 qq3/\EK 279 qq2/\EK 280 qq0:=by and_intros<;>exact fun _ _ _ _=>rfl
@[simp] theorem q8l [MaxL] [TxtC]:qv 283 0 [0,1,2,3]/\qv 283 1 [0,1,2,3]/\qv 283 2 [0,1,2,3,11,12]/\qv 283 3 [12]/\qv 283 4 [0,1,2,3,11]/\qv 283 5 []/\qv 283 6 [0,1,3,11]/\qv 283 7 []/\qv 283 8 [0,1,3,11]/\qv 283 9 [3,13]:=by and_intros<;>exact fun _ _ _=>rfl
@[simp] theorem q9S [MaxL] [TxtC] (n0:Nat) (e:qu) (H:qe):enter cx 283 n0 10 e H=VA [] [14] [3,13] n0 e H:=rfl
@[simp] theorem q8k [MaxL] [TxtC]:qv 283 11 [3,13,14,49,50]/\qv 283 12 [3,13,14,49,50]/\qv 283 13 [3,13,14,15,49,50]/\qv 283 14 [3,13,14,16,49,50]:=by and_intros<;>exact fun _ _ _=>rfl
@[simp] theorem q9R [MaxL] [TxtC] (n0:Nat) (e:qu) (H:qe):enter cx 283 n0 15 e H=VA [] [14] [3,13,49,50] n0 e H:=rfl
@[simp] theorem q9Q [MaxL] [TxtC] (n0:Nat) (e:qu) (H:qe):enter cx 283 n0 16 e H=qc2 [3,13,14] 0 n0 e H:=rfl
@[simp] theorem q8j [MaxL] [TxtC]:EK 284 qqz/\EK 285 qqy/\EK 288 qqx/\EK 289 qqw/\EK 290 qqu/\EK 291 qqt/\EK 294 qqs/\EK 295 qqr/\EK 296 qqq:=by and_intros<;>exact fun _ _ _ _=>rfl
abbrev qD(n s:Nat)(a:Bool)(b:Nat)(z:D):Prop:=qw Tryz.prog n=s/\KC Tryz.prog n=some a/\bytesOf Tryz.prog n=b/\Xy Tryz.prog n=some z
abbrev qqC(n:Nat):Prop:=ql6 Tryz.prog n=true
abbrev qqG(n:Nat):Prop:=Tryz.prog.eqGuardType Tryz.prog.depth n=false
abbrev jh(n:Nat)(u:TypeDesc):Prop:=Tryz.prog.underlying n=some u
@[simp] theorem q70:qD 1 1 false 8 (.nilf)/\qD 2 1 false 8 (.int .i64 0)/\qqC 2/\jh 2 (.int .i64)/\qD 3 1 false 8 (.int .i64 0)/\qqC 3:=wT
@[simp] theorem un3:Tryz.prog.underlying 3=some (.int .i64):=wF
attribute [simp] Tryz.underlying20
@[simp] theorem q7z:qD 4 1 false 1 (.bool false)/\jh 4 .bool/\qD 5 1 false 1 (.int .u8 0)/\qqC 5/\jh 5 (.int .u8)/\qD 9 1 false 16 (.str [])/\jh 9 .string/\qD 20 1 false 16 (.nili)/\qD 21 1 false 4 (.int .i32 0)/\qqC 21/\jh 21 (.int .i32)/\qD 22 1 false 24 (.vsl true [] 0):=wT
@[simp] theorem qwy:Tryz.prog.underlying 22=some (.slice 23):=wF
@[simp] theorem q7y:qD 23 1 false 24 (.vsl true [] 0):=wT
@[simp] theorem qmm:Tryz.prog.underlying 23=some (.slice 3):=wF
attribute [simp] Tryz.underlying39 Tryz.underlying40 Tryz.underlying44 Tryz.underlying45 Tryz.underlying46 Tryz.underlying47 Tryz.underlying51 Tryz.underlying52 Tryz.underlying53 Tryz.underlying54 Tryz.underlying56 Tryz.underlying57 Tryz.underlying75 Tryz.underlying76 Tryz.underlying79 Tryz.underlying99 Tryz.underlying100 Tryz.underlying103 Tryz.underlying104 Tryz.underlying107 Tryz.underlying108 Tryz.underlying119 Tryz.underlying120 Tryz.underlying123 Tryz.underlying124 Tryz.underlying133 Tryz.underlying134 Tryz.underlying136 Tryz.underlying137 Tryz.underlying153 Tryz.underlying154 Tryz.underlying160 Tryz.underlying161 Tryz.underlying170 Tryz.underlying171 Tryz.underlying180 Tryz.underlying181 Tryz.underlying187 Tryz.underlying188 Tryz.underlying201 Tryz.underlying202 Tryz.underlying203 Tryz.underlying204 Tryz.underlying206 Tryz.underlying207 Tryz.underlying211 Tryz.underlying212 Tryz.underlying219 Tryz.underlying220 Tryz.underlying226 Tryz.underlying227 Tryz.underlying262 Tryz.underlying263 Tryz.underlying269 Tryz.underlying270 Tryz.underlying276 Tryz.underlying277 Tryz.underlying285 Tryz.underlying309 Tryz.underlying310 Tryz.underlying332 Tryz.underlying333 Tryz.underlying336 Tryz.underlying337 Tryz.underlying339 Tryz.underlying340 Tryz.underlying358 Tryz.underlying359 Tryz.underlying371 Tryz.underlying372 Tryz.underlying376 Tryz.underlying377 Tryz.underlying378 Tryz.underlying379 Tryz.underlying384 Tryz.underlying385 Tryz.underlying400 Tryz.underlying401
@[simp] theorem q7x:qD 26 1 false 8 (.nilp)/\jh 26 (.pointer 104)/\qD 28 1 false 24 (.vsl true [] 0)/\jh 28 (.slice 57)/\qD 29 1 false 24 (.vsl true [] 0)/\jh 29 (.slice 9)/\qD 32 1 false 24 (.vsl true [] 0)/\jh 32 (.slice 40)/\qD 34 1 false 24 (.vsl true [] 0)/\jh 34 (.slice 47)/\qD 36 16 true 16 (.agg (qM []))/\jh 36 (.array 16 5)/\qD 37 16 true 16 (.agg (qM []))/\jh 37 (.array 16 5)/\qD 38 1 false 8 (.int .u64 0)/\qqC 38/\jh 38 (.int .u64)/\qD 39 19 true 40 (.agg (qM [.int .u64 0,.int .u64 0,.int .u64 0]))/\qD 40 19 true 40 (.agg (qM [.int .u64 0,.int .u64 0,.int .u64 0]))/\qD 43 1 false 24 (.vsl true [] 0)/\jh 43 (.slice 202)/\qD 44 20 true 64 (.agg (.int .u64 0::.int .u64 0::.int .u64 0::qM [.vsl true [] 0]))/\qD 45 20 true 64 (.agg (.int .u64 0::.int .u64 0::.int .u64 0::qM [.vsl true [] 0]))/\qD 46 39 true 104 (.agg (qM (.bool false::VH (.int .u64 0::qM [.vsl true [] 0])))):=wT
@[simp] theorem q7w:qD 47 39 true 104 (.agg (qM (.bool false::VH (.int .u64 0::qM [.vsl true [] 0]))))/\qD 50 1 false 4 (.int .u32 0)/\qqC 50/\jh 50 (.int .u32)/\qD 51 91 true 264 (.agg (.int .u32 0::.int .u32 0::.int .i64 0::qM (qM (qM (qM (ku (ku [.int .u64 0,.int .u32 0,.int .u32 0,.int .u64 0])))))))/\qD 52 91 true 264 (.agg (.int .u32 0::.int .u32 0::.int .i64 0::qM (qM (qM (qM (ku (ku [.int .u64 0,.int .u32 0,.int .u32 0,.int .u64 0])))))))/\qD 53 19 true 40 (.agg (.int .i64 0::qM [.int .u64 0,.int .u64 0]))/\qD 54 19 true 40 (.agg (.int .i64 0::qM [.int .u64 0,.int .u64 0]))/\qD 55 1 false 8 (.nilp)/\jh 55 (.pointer 100)/\qD 56 21 true 64 (.agg (.str []::.int .i64 0::qM [.int .u64 0,.int .u64 0,.nilp]))/\qD 57 21 true 64 (.agg (.str []::.int .i64 0::qM [.int .u64 0,.int .u64 0,.nilp]))/\qD 63 1 false 24 (.vsl true [] 0)/\jh 63 (.slice 5)/\qD 74 1 false 8 (.nilp)/\jh 74 (.pointer 76)/\qD 75 2 true 32 (.agg [.vsl true [] 0,.int .i64 0])/\qD 76 2 true 32 (.agg [.vsl true [] 0,.int .i64 0])/\qD 79 19 true 40 (.agg (.int .i64 0::qM [.int .u64 0,.int .u64 0]))/\qD 81 1 false 8 (.nilp)/\jh 81 (.pointer 137)/\qD 82 1 false 24 (.vsl true [] 0)/\jh 82 (.slice 45)/\qD 92 1 false 24 (.vsl true [] 0):=wT
@[simp] theorem q7u:jh 92 (.slice 154)/\qD 97 1 false 8 (.nilp)/\jh 97 (.pointer 181)/\qD 98 1 false 24 (.vsl true [] 0)/\jh 98 (.slice 38)/\qD 99 5 true 72 (.agg [.nilp,.vsl true [] 0,.int .i64 0,.vsl true [] 0,.bool false])/\qD 100 5 true 72 (.agg [.nilp,.vsl true [] 0,.int .i64 0,.vsl true [] 0,.bool false])/\qD 101 1 false 24 (.vsl true [] 0)/\jh 101 (.slice 105)/\qD 102 1 false 24 (.vsl true [] 0)/\jh 102 (.slice 120)/\qD 103 5 true 72 (.agg [.int .i64 0,.int .i64 0,.bool false,.vsl true [] 0,.vsl true [] 0])/\qD 104 5 true 72 (.agg [.int .i64 0,.int .i64 0,.bool false,.vsl true [] 0,.vsl true [] 0])/\qD 105 1 false 8 (.nilp)/\jh 105 (.pointer 108)/\qD 106 1 false 8 (.nilp)/\jh 106 (.pointer 188)/\qD 107 3 true 32 (.agg [.str [],.bool false,.nilp])/\qD 108 3 true 32 (.agg [.str [],.bool false,.nilp])/\qD 119 4 true 40 (.agg [.int .i64 0,.nilp,.str [],.nilp])/\qD 120 4 true 40 (.agg [.int .i64 0,.nilp,.str [],.nilp])/\qD 123 52 true 80 (.agg (qM (qM (qM [.int .i64 0,.int .i64 0,.int .i64 0,.bool false]))))/\qD 124 52 true 80 (.agg (qM (qM (qM [.int .i64 0,.int .i64 0,.int .i64 0,.bool false]))))/\qD 132 20 true 160 (.agg (ku (ku []))):=wT
@[simp] theorem q7t:jh 132 (.array 20 38)/\qD 133 90 true 256 (.agg (.int .u32 0::.int .u32 0::.int .i64 0::qM (qM (qM (qM (ku (ku [.int .u32 0,.int .u32 0,.int .u64 0])))))))/\qD 134 90 true 256 (.agg (.int .u32 0::.int .u32 0::.int .i64 0::qM (qM (qM (qM (ku (ku [.int .u32 0,.int .u32 0,.int .u64 0])))))))/\qD 135 1 false 24 (.vsl true [] 0)/\jh 135 (.slice 204)/\qD 136 147 true 440 (.agg (qM (qM (qM (.int .i64 0::.int .i64 0::.int .i64 0::.bool false::.int .u32 0::.int .u32 0::.int .i64 0::qM (qM (qM (qM (ku (ku [.int .u32 0,.int .u32 0,.int .u64 0,.int .u64 0,.vsl true [] 0,.vsl true [] 0,.vsl true [] 0,.vsl true [] 0]))))))))))/\qD 137 147 true 440 (.agg (qM (qM (qM (.int .i64 0::.int .i64 0::.int .i64 0::.bool false::.int .u32 0::.int .u32 0::.int .i64 0::qM (qM (qM (qM (ku (ku [.int .u32 0,.int .u32 0,.int .u64 0,.int .u64 0,.vsl true [] 0,.vsl true [] 0,.vsl true [] 0,.vsl true [] 0]))))))))))/\qD 152 1 false 24 (.vsl true [] 0)/\jh 152 (.slice 161)/\qD 153 18 true 48 (.agg (qM [.vsl true [] 0,.int .u64 0]))/\qD 154 18 true 48 (.agg (qM [.vsl true [] 0,.int .u64 0]))/\qD 155 1 false 8 (.nilf)/\qD 160 4 true 32 (.agg [.int .u64 0,.int .u64 0,.nilp,.int .i64 0])/\qD 161 4 true 32 (.agg [.int .u64 0,.int .u64 0,.nilp,.int .i64 0])/\qD 164 1 false 8 (.nilf)/\qD 166 1 false 8 (.nilf)/\qD 167 1 false 24 (.vsl true [] 0)/\jh 167 (.slice 171)/\qD 169 1 false 8 (.nilf)/\qD 170 23 true 72 (.agg (qM [.int .u64 0,.int .u64 0,.nilp,.int .i64 0,.bool false,.int .u64 0,.int .u64 0]))/\qD 171 23 true 72 (.agg (qM [.int .u64 0,.int .u64 0,.nilp,.int .i64 0,.bool false,.int .u64 0,.int .u64 0]))/\qD 176 1 false 8 (.nilf)/\qD 180 92 true 288 (.agg (.vsl true [] 0::.int .u32 0::.int .u32 0::.int .i64 0::qM (qM (qM (qM (ku (ku [.int .u64 0,.int .u32 0,.int .u32 0,.int .u64 0])))))))/\qD 181 92 true 288 (.agg (.vsl true [] 0::.int .u32 0::.int .u32 0::.int .i64 0::qM (qM (qM (qM (ku (ku [.int .u64 0,.int .u32 0,.int .u32 0,.int .u64 0]))))))):=wT
@[simp] theorem q7s:qD 184 1 false 8 (.int .u64 0)/\qqC 184/\jh 184 (.int .u64)/\qD 187 2 true 48 (.agg [.vsl true [] 0,.vsl true [] 0])/\qD 188 2 true 48 (.agg [.vsl true [] 0,.vsl true [] 0])/\qD 193 1 false 24 (.vsl true [] 0)/\jh 193 (.slice 263)/\qD 198 1 false 24 (.vsl true [] 0)/\jh 198 (.slice 207)/\qD 199 1 false 24 (.vsl true [] 0)/\jh 199 (.slice 63)/\qD 201 2 true 32 (.agg [.str [],.str []])/\qD 202 2 true 32 (.agg [.str [],.str []])/\qD 203 5 true 64 (.agg [.str [],.int .u64 0,.int .i64 0,.int .i64 0,.vsl true [] 0])/\qD 204 5 true 64 (.agg [.str [],.int .u64 0,.int .i64 0,.int .i64 0,.vsl true [] 0])/\qD 206 2 true 16 (.agg [.int .u64 0,.int .u64 0])/\qD 207 2 true 16 (.agg [.int .u64 0,.int .u64 0])/\qD 211 21 true 72 (.agg (.int .u64 0::.int .u64 0::.int .u64 0::qM [.int .u64 0,.vsl true [] 0]))/\qD 212 21 true 72 (.agg (.int .u64 0::.int .u64 0::.int .u64 0::qM [.int .u64 0,.vsl true [] 0]))/\qD 219 1 false 16 (.nili)/\qD 220 1 false 16 (.nili)/\qD 226 3 true 40 (.agg [.vsl true [] 0,.int .u64 0,.int .u64 0])/\qD 227 3 true 40 (.agg [.vsl true [] 0,.int .u64 0,.int .u64 0])/\qD 238 1 false 8 (.nilf):=wT
@[simp] theorem q7r:qD 242 1 false 8 (.nilf)/\qD 244 1 false 8 (.int .i64 0)/\qqC 244/\jh 244 (.int .i64)/\qD 262 2 true 16 (.agg [.int .u64 0,.int .u64 0])/\qD 263 2 true 16 (.agg [.int .u64 0,.int .u64 0])/\qD 269 7 true 72 (.agg (VH [.int .u64 0,.int .u64 0,.vsl true [] 0]))/\qD 270 7 true 72 (.agg (VH [.int .u64 0,.int .u64 0,.vsl true [] 0]))/\qD 276 2 true 32 (.agg [.int .u64 0,.vsl true [] 0])/\qD 277 2 true 32 (.agg [.int .u64 0,.vsl true [] 0])/\qD 285 2 true 32 (.agg [.int .u64 0,.vsl true [] 0])/\qD 293 1 false 8 (.int .u64 0)/\qqC 293/\jh 293 (.int .u64)/\qD 296 1 false 8 (.nilp)/\jh 296 (.pointer 3)/\qD 299 24 true 24 (.agg (qM (zb8 [])))/\jh 299 (.array 24 5)/\qD 309 4 true 48 (.agg [.int .u64 0,.int .u64 0,.int .u64 0,.vsl true [] 0])/\qD 310 4 true 48 (.agg [.int .u64 0,.int .u64 0,.int .u64 0,.vsl true [] 0])/\qD 312 4 true 32 (.agg (VH []))/\jh 312 (.array 4 38)/\qD 318 1 false 8 (.int .i64 0)/\qqC 318:=wT
@[simp] theorem q7q:jh 318 (.int .i64)/\qD 320 1 false 8 (.nilp)/\jh 320 (.pointer 359)/\qD 324 1 false 24 (.vsl true [] 0)/\jh 324 (.slice 326)/\qD 326 1 false 8 (.nilp)/\jh 326 (.pointer 37)/\qD 327 1 false 24 (.vsl true [] 0)/\jh 327 (.slice 329)/\qD 329 1 false 8 (.nilp)/\jh 329 (.pointer 38)/\qD 332 1 true 8 (.agg [.int .i64 0])/\qD 333 1 true 8 (.agg [.int .i64 0])/\qD 335 1 false 24 (.vsl true [] 0)/\jh 335 (.slice 339)/\qD 336 21 true 72 (.agg (.int .u64 0::.int .u64 0::.int .u64 0::qM [.int .u64 0,.vsl true [] 0]))/\qD 337 21 true 72 (.agg (.int .u64 0::.int .u64 0::.int .u64 0::qM [.int .u64 0,.vsl true [] 0]))/\qD 339 2 true 16 (.agg [.int .u64 0,.int .u64 0])/\qD 340 7 true 72 (.agg (VH [.int .u64 0,.int .u64 0,.vsl true [] 0]))/\qD 352 65 true 65 (.agg (List.replicate 65 (.int .u8 0)))/\jh 352 (.array 65 5)/\qD 358 3 true 48 (.agg [.str [],.str [],.nili])/\qD 359 3 true 48 (.agg [.str [],.str [],.nili])/\qD 370 256 true 256 (.agg (List.replicate 256 (.int .u8 0))):=wT
@[simp] theorem q7p:jh 370 (.array 256 5)/\qD 371 2 true 2 (.agg [.int .u8 0,.int .u8 0])/\qD 372 2 true 2 (.agg [.int .u8 0,.int .u8 0])/\qD 373 32 true 32 (.agg (List.replicate 32 (.int .u8 0)))/\jh 373 (.array 16 372)/\qD 375 1 false 8 (.nilp)/\jh 375 (.pointer 377)/\qD 376 1 true 16 (.agg [.str []])/\qD 377 1 true 16 (.agg [.str []])/\qD 378 3 true 24 (.agg [.int .i64 0,.int .i64 0,.int .u64 0])/\qD 379 3 true 24 (.agg [.int .i64 0,.int .i64 0,.int .u64 0])/\qD 384 3 true 12 (.agg [.int .u32 0,.int .u32 0,.int .u32 0])/\qD 385 3 true 12 (.agg [.int .u32 0,.int .u32 0,.int .u32 0])/\qD 387 12 true 12 (.agg (zb8 [.int .u8 0,.int .u8 0,.int .u8 0,.int .u8 0]))/\jh 387 (.array 12 5)/\qD 389 32 true 32 (.agg (List.replicate 32 (.int .u8 0)))/\jh 389 (.array 32 5)/\qD 390 64 true 64 (.agg (List.replicate 64 (.int .u8 0)))/\jh 390 (.array 64 5)/\qD 397 1 false 8 (.nilp)/\jh 397 (.pointer 401)/\qD 400 6 true 64 (.agg (VH [.int .i64 0,.vsl true [] 0]))/\qD 401 6 true 64 (.agg (VH [.int .i64 0,.vsl true [] 0]))/\qD 402 8 true 8 (.agg (zb8 [])):=wT
@[simp] theorem q7o:jh 402 (.array 8 5):=wT
@[simp] theorem pl3:ZQ Tryz.prog 50 3=some ([.i]):=wF
@[simp] theorem q7n:qqG 3:=wT
@[simp] theorem pl4:ZQ Tryz.prog 50 4=some ([.b]):=wF
@[simp] theorem q7m:qqG 4:=wT
@[simp] theorem pl5:ZQ Tryz.prog 50 5=some ([.i]):=wF
@[simp] theorem q7l:qqG 5:=wT
@[simp] theorem pl9:ZQ Tryz.prog 50 9=some ([.s]):=wF
@[simp] theorem q7j:qqG 9:=wT
@[simp] theorem q8a:ZQ Tryz.prog 50 21=some ([.i]):=wF
@[simp] theorem q7i:qqG 21:=wT
@[simp] theorem q7X:ZQ Tryz.prog 50 37=some ((qvl [])):=wF
@[simp] theorem q7h:qqG 37:=wT
@[simp] theorem q7W:ZQ Tryz.prog 50 38=some ([.i]):=wF
@[simp] theorem q7g:qqG 38:=wT
@[simp] theorem q7T:ZQ Tryz.prog 50 50=some ([.i]):=wF
@[simp] theorem q7f:qqG 50:=wT
@[simp] theorem q8b:ZQ Tryz.prog 50 202=some ([.s,.s]):=wF
@[simp] theorem q7e:qqG 202:=wT
@[simp] theorem q7Z:ZQ Tryz.prog 50 244=some ([.i]):=wF
@[simp] theorem q7d:qqG 244:=wT
end Go.Ev.S
namespace Go.Ev
open Go Go.Proofs
structure ID where
 l:List UInt8
 h:l.length=16
 deriving DecidableEq
@[simp] theorem ID.len (i:ID):i.l.length=16:=i.h
theorem ID.ext'{a b:ID}(h:a.l=b.l):a=b:=by cases a;cases b;simp at h;subst h;rfl
instance:Enc ID:=⟨16,fun i=>qf i.l,fun i=>wE,fun i=>wE⟩
theorem ID.cells(i:ID):Enc.cells i=qf i.l:=rfl
def ID.zero:ID:=⟨List.replicate 16 0,wE⟩
theorem qvn:∀(x y:List UInt8),x.length=y.length->ZH (List.replicate x.length .i) (qf x) (qf y)=some (x==y)
 |[],[],_=>rfl
 |a::x,b::y,h=>by
  have c:=qvn x y wQ;simp only[jA,qdS,qf,List.map_cons,ZH,qgO];simp only[qf] at c;rw[c]
  have:((a.toNat:Int)==(b.toNat:Int))=(a==b):=by
   rw[Bool.eq_iff_iff];simp only[beq_iff_eq,Int.natCast_inj];exact⟨fun h=>UInt8.toNat_inj.1 h,fun h=>by rw[h]⟩
  simp[this]
 |[],_::_,h=>by simp at h
 |_::_,[],h=>by simp at h
@[simp] theorem qAo (x y:ID):ZH (qvl []) (qf x.l) (qf y.l)=some (x==y):=by
 have:=qvn x.l y.l wE;rw[x.h] at this
 have e:(x.l==y.l)=(x==y):=by
  rw[Bool.eq_iff_iff];simp only[beq_iff_eq];exact⟨ID.ext',fun h=>by rw[h]⟩
 rw[e] at this;exact this
structure Mk where
 id:ID
 seq:Int
 lost:Int
 over:Int
 deriving DecidableEq
def jx(n:Int):Prop:=0<=n/\n<18446744073709551616
structure Mk.Ok (m:Mk):Prop where
 seq:jx m.seq
 lost:jx m.lost
 over:jx m.over
def Mk.tl(m:Mk):List D:=[.int .u64 m.seq,.int .u64 m.lost,.int .u64 m.over]
instance:Enc Mk:=⟨19,fun m=>qf m.id.l++m.tl,fun m=>by simp[Mk.tl],fun m=>by simp[Mk.tl,idFree]⟩
theorem Mk.cells(m:Mk):Enc.cells m=qf m.id.l++[.int .u64 m.seq,.int .u64 m.lost,.int .u64 m.over]:=rfl
@[simp] theorem Mk.size:Enc.size Mk=19:=rfl
@[simp] theorem ID.size:Enc.size ID=16:=rfl
@[simp] theorem Mk.cl (a:Mk):(Enc.cells a).length=19:=Enc.len a
@[simp] theorem Mk.ct (a:Mk) (r:List D):(Enc.cells a++r).take 19=Enc.cells a:=qc6 rfl a r
@[simp] theorem Mk.ct' (a:Mk):(Enc.cells a).take 19=Enc.cells a:=qc5 rfl a
@[simp] theorem Mk.cd (a:Mk) (r:List D):(Enc.cells a++r).drop 19=r:=qc7 rfl a r
@[simp] theorem Mk.el (l:List Mk):(qt l).length=l.length*19:=Kx rfl l
@[simp] theorem Mk.ed (l:List Mk) (i:Nat):(qt l).drop (i*19)=qt (l.drop i):=qa3 rfl l i
@[simp] theorem Mk.et (l:List Mk) (i:Nat):(qt l).take (i*19)=qt (l.take i):=qa2 rfl l i
@[simp high] theorem Mk.ea {l:List Mk} {i:Nat} (h:i<l.length):(qt l).drop (i*19)=Enc.cells l[i]++qt (l.drop (i+1)):=XW rfl h
@[simp high] theorem Mk.es (m:Mk) {l:List Mk} {j:Nat} (h:j<l.length):zU (qt l) (j*19) (Enc.cells m)=qt (l.set j m):=XV rfl m l h
theorem vY{s:List UInt8}{n:Nat}(h:s.length<=n):(qf s).drop n=[]:=Jc wQ
@[simp] theorem Mk.t16 (m:Mk):(Enc.cells m).take 16=qf m.id.l:=xE
@[simp] theorem Mk.t16' (m:Mk) (r:List D):(Enc.cells m++r).take 16=qf m.id.l:=xE
@[simp] theorem Mk.d16 (m:Mk):(Enc.cells m).drop 16=[.int .u64 m.seq,.int .u64 m.lost,.int .u64 m.over]:=xE
@[simp] theorem Mk.d17 (m:Mk):(Enc.cells m).drop 17=[.int .u64 m.lost,.int .u64 m.over]:=xp
@[simp] theorem Mk.d18 (m:Mk):(Enc.cells m).drop 18=[.int .u64 m.over]:=xp
@[simp] theorem Mk.d16' (m:Mk) (r:List D):(Enc.cells m++r).drop 16=[.int .u64 m.seq,.int .u64 m.lost,.int .u64 m.over]++r:=xE
@[simp] theorem Mk.d17' (m:Mk) (r:List D):(Enc.cells m++r).drop 17=[.int .u64 m.lost,.int .u64 m.over]++r:=xp
@[simp] theorem Mk.d18' (m:Mk) (r:List D):(Enc.cells m++r).drop 18=[.int .u64 m.over]++r:=xp
@[simp] theorem Mk.g16 (m:Mk) (h):(Enc.cells m)[16]'h=.int .u64 m.seq:=xE
@[simp] theorem Mk.g17 (m:Mk) (h):(Enc.cells m)[17]'h=.int .u64 m.lost:=xE
@[simp] theorem Mk.g18 (m:Mk) (h):(Enc.cells m)[18]'h=.int .u64 m.over:=xE
@[simp] theorem Mk.s16 (m:Mk) (x:Int):zU (Enc.cells m) 16 [.int .u64 x]=Enc.cells {m with seq:=x}:=xp
@[simp] theorem Mk.s17 (m:Mk) (x:Int):zU (Enc.cells m) 17 [.int .u64 x]=Enc.cells {m with lost:=x}:=by simp[Mk.cells,Zp,jf,vY,qJ]
@[simp] theorem Mk.s18 (m:Mk) (x:Int):zU (Enc.cells m) 18 [.int .u64 x]=Enc.cells {m with over:=x}:=by simp[Mk.cells,Zp,jf,vY,qJ]
structure Pr where
 name:List UInt8
 value:List UInt8
 deriving DecidableEq
instance:Enc Pr:=⟨2,fun p=>[.str p.name,.str p.value],fun _=>rfl,fun _=>rfl⟩
theorem Pr.cells(p:Pr):Enc.cells p=[.str p.name,.str p.value]:=rfl
@[simp] theorem Pr.size:Enc.size Pr=2:=rfl
@[simp] theorem Pr.cl (a:Pr):(Enc.cells a).length=2:=Enc.len a
@[simp] theorem Pr.ct (a:Pr) (r:List D):(Enc.cells a++r).take 2=Enc.cells a:=qc6 rfl a r
@[simp] theorem Pr.ct' (a:Pr):(Enc.cells a).take 2=Enc.cells a:=qc5 rfl a
@[simp] theorem Pr.cd (a:Pr) (r:List D):(Enc.cells a++r).drop 2=r:=qc7 rfl a r
@[simp] theorem Pr.el (l:List Pr):(qt l).length=l.length*2:=Kx rfl l
@[simp] theorem Pr.ed (l:List Pr) (i:Nat):(qt l).drop (i*2)=qt (l.drop i):=qa3 rfl l i
@[simp] theorem Pr.et (l:List Pr) (i:Nat):(qt l).take (i*2)=qt (l.take i):=qa2 rfl l i
@[simp high] theorem Pr.ea {l:List Pr} {i:Nat} (h:i<l.length):(qt l).drop (i*2)=Enc.cells l[i]++qt (l.drop (i+1)):=XW rfl h
@[simp high] theorem Pr.es (m:Pr) {l:List Pr} {j:Nat} (h:j<l.length):zU (qt l) (j*2) (Enc.cells m)=qt (l.set j m):=XV rfl m l h
structure Rec where
 seq:Int
 real:Int
 mono:Int
 boot:ID
 fields:Sl Pr
instance:Enc Rec:=⟨20,fun r=>[.int .u64 r.seq,.int .u64 r.real,.int .u64 r.mono]++(qf r.boot.l++[(.vsl r.fields.nil (qt r.fields.l) r.fields.l.length)]),fun r=>wE,fun r=>xC⟩
theorem Rec.cells(r:Rec):Enc.cells r=[.int .u64 r.seq,.int .u64 r.real,.int .u64 r.mono]++(qf r.boot.l++[(.vsl r.fields.nil (qt r.fields.l) r.fields.l.length)]):=rfl
@[simp] theorem Rec.size:Enc.size Rec=20:=rfl
structure Rec.Ok (r:Rec):Prop where
 seq:jx r.seq
 real:jx r.real
 mono:jx r.mono
@[simp] theorem Rec.cl (a:Rec):(Enc.cells a).length=20:=Enc.len a
@[simp] theorem Rec.ct (a:Rec) (r:List D):(Enc.cells a++r).take 20=Enc.cells a:=qc6 rfl a r
@[simp] theorem Rec.ct' (a:Rec):(Enc.cells a).take 20=Enc.cells a:=qc5 rfl a
@[simp] theorem Rec.cd (a:Rec) (r:List D):(Enc.cells a++r).drop 20=r:=qc7 rfl a r
@[simp] theorem Rec.el (l:List Rec):(qt l).length=l.length*20:=Kx rfl l
@[simp] theorem Rec.ed (l:List Rec) (i:Nat):(qt l).drop (i*20)=qt (l.drop i):=qa3 rfl l i
@[simp] theorem Rec.et (l:List Rec) (i:Nat):(qt l).take (i*20)=qt (l.take i):=qa2 rfl l i
@[simp high] theorem Rec.ea {l:List Rec} {i:Nat} (h:i<l.length):(qt l).drop (i*20)=Enc.cells l[i]++qt (l.drop (i+1)):=XW rfl h
@[simp high] theorem Rec.es (m:Rec) {l:List Rec} {j:Nat} (h:j<l.length):zU (qt l) (j*20) (Enc.cells m)=qt (l.set j m):=XV rfl m l h
structure It where
 id:ID
 gap:Bool
 fr:Int
 til:Int
 rc:Rec
instance:Enc It:=⟨39,fun i=>qf i.id.l++([.bool i.gap,.int .u64 i.fr,.int .u64 i.til]++Enc.cells i.rc),fun i=>wE,fun i=>xC⟩
theorem It.cells(i:It):Enc.cells i=qf i.id.l++([.bool i.gap,.int .u64 i.fr,.int .u64 i.til]++([.int .u64 i.rc.seq,.int .u64 i.rc.real,.int .u64 i.rc.mono]++(qf i.rc.boot.l++[(.vsl i.rc.fields.nil (qt i.rc.fields.l) i.rc.fields.l.length)]))):=rfl
@[simp] theorem It.size:Enc.size It=39:=rfl
structure It.Ok (i:It):Prop where
 fr:jx i.fr
 til:jx i.til
 rc:i.rc.Ok
@[simp] theorem It.cl (a:It):(Enc.cells a).length=39:=Enc.len a
@[simp] theorem It.ct (a:It) (r:List D):(Enc.cells a++r).take 39=Enc.cells a:=qc6 rfl a r
@[simp] theorem It.ct' (a:It):(Enc.cells a).take 39=Enc.cells a:=qc5 rfl a
@[simp] theorem It.cd (a:It) (r:List D):(Enc.cells a++r).drop 39=r:=qc7 rfl a r
@[simp] theorem It.el (l:List It):(qt l).length=l.length*39:=Kx rfl l
@[simp] theorem It.ed (l:List It) (i:Nat):(qt l).drop (i*39)=qt (l.drop i):=qa3 rfl l i
@[simp] theorem It.et (l:List It) (i:Nat):(qt l).take (i*39)=qt (l.take i):=qa2 rfl l i
@[simp high] theorem It.ea {l:List It} {i:Nat} (h:i<l.length):(qt l).drop (i*39)=Enc.cells l[i]++qt (l.drop (i+1)):=XW rfl h
@[simp high] theorem It.es (m:It) {l:List It} {j:Nat} (h:j<l.length):zU (qt l) (j*39) (Enc.cells m)=qt (l.set j m):=XV rfl m l h
@[simp] theorem It.t16 (i:It):(Enc.cells i).take 16=qf i.id.l:=by simp[It.cells]
@[simp] theorem It.t16' (i:It) (r:List D):(Enc.cells i++r).take 16=qf i.id.l:=by simp[It.cells]
@[simp] theorem It.d16 (i:It):(Enc.cells i).drop 16=.bool i.gap:: .int .u64 i.fr:: .int .u64 i.til:: .int .u64 i.rc.seq:: .int .u64 i.rc.real:: .int .u64 i.rc.mono::(qf i.rc.boot.l++[(.vsl i.rc.fields.nil (qt i.rc.fields.l) i.rc.fields.l.length)]):=by simp[It.cells]
@[simp] theorem It.d17 (i:It):(Enc.cells i).drop 17=.int .u64 i.fr:: .int .u64 i.til:: .int .u64 i.rc.seq:: .int .u64 i.rc.real:: .int .u64 i.rc.mono::(qf i.rc.boot.l++[(.vsl i.rc.fields.nil (qt i.rc.fields.l) i.rc.fields.l.length)]):=xW
@[simp] theorem It.d18 (i:It):(Enc.cells i).drop 18=.int .u64 i.til:: .int .u64 i.rc.seq:: .int .u64 i.rc.real:: .int .u64 i.rc.mono::(qf i.rc.boot.l++[(.vsl i.rc.fields.nil (qt i.rc.fields.l) i.rc.fields.l.length)]):=xW
@[simp] theorem It.d19 (i:It):(Enc.cells i).drop 19=.int .u64 i.rc.seq:: .int .u64 i.rc.real:: .int .u64 i.rc.mono::(qf i.rc.boot.l++[(.vsl i.rc.fields.nil (qt i.rc.fields.l) i.rc.fields.l.length)]):=xW
@[simp] theorem It.d20 (i:It):(Enc.cells i).drop 20=.int .u64 i.rc.real:: .int .u64 i.rc.mono::(qf i.rc.boot.l++[(.vsl i.rc.fields.nil (qt i.rc.fields.l) i.rc.fields.l.length)]):=xW
@[simp] theorem It.d21 (i:It):(Enc.cells i).drop 21=.int .u64 i.rc.mono::(qf i.rc.boot.l++[(.vsl i.rc.fields.nil (qt i.rc.fields.l) i.rc.fields.l.length)]):=xW
@[simp] theorem It.d22 (i:It):(Enc.cells i).drop 22=qf i.rc.boot.l++[(.vsl i.rc.fields.nil (qt i.rc.fields.l) i.rc.fields.l.length)]:=xW
@[simp] theorem It.d38 (i:It):(Enc.cells i).drop 38=[(.vsl i.rc.fields.nil (qt i.rc.fields.l) i.rc.fields.l.length)]:=xW
def leN:List UInt8->Nat
 |[]=>0
 |b::l=>b.toNat+256*leN l
def QO:Nat->Nat->List UInt8
 |0,_=>[]
 |n+1,v=>UInt8.ofNat (v % 256)::QO n (v/256)
@[simp] theorem qpi:∀(n v:Nat),(QO n v).length=n
 |0,_=>rfl
 |n+1,v=>by simp[QO,qpi n]
theorem qfg:∀(l:List UInt8),leN l<256^l.length
 |[]=>by simp[leN]
 |b::l=>by
  have c:=qfg l;have a:=b.toNat_lt;simp only[leN,jA,qeD];omega
theorem qk0:∀(n v:Nat),leN (QO n v)=v % 256^n
 |0,v=>by simp[QO,leN,Nat.mod_one]
 |n+1,v=>by
  simp only[QO,leN,qk0 n];rw[qfD (YM _ wH),qeD,Nat.mul_comm (256^n) 256,Nat.mod_mul]
theorem qph:∀(n v:Nat),QO (n+1) v=QO n v++[UInt8.ofNat (v/256^n % 256)]
 |0,v=>by simp[QO]
 |n+1,v=>by
  rw[QO,qph n (v/256),QO,kC,Nat.div_div_eq_div_mul,qeD,Nat.mul_comm 256]
theorem qhO:∀(a b:List UInt8),leN (a++b)=leN a+256^a.length*leN b
 |[],b=>by simp[leN]
 |x::a,b=>by
  simp only[kC,leN,qhO a b,jA,qeD];rw[Nat.mul_add,<-Nat.mul_assoc,Nat.mul_comm 256 (256^a.length),qgV]
theorem qfc(a b:List UInt8):qf (a++b)=qf a++qf b:=wW
theorem qon(a:UInt8)(b:List UInt8):qf (a::b)=.int .u8 (a.toNat:Int)::qf b:=rfl
theorem qda(l:List UInt8)(i:Nat):(qf l).drop i=qf (l.drop i):=wW
theorem qem(l:List UInt8)(i:Nat):(qf l).take i=qf (l.take i):=wW
theorem vE{l:List UInt8}{i:Nat}(h:i<l.length):(qf l).drop i=.int .u8 (l[i].toNat:Int)::qf (l.drop (i+1)):=by
 rw[qda,zZ h,qon]
theorem qzG{l:List UInt8}{i:Nat}(h:i<(qf l).length):(qf l)[i]=.int .u8 ((l[i]' wQ).toNat:Int):=wW
@[simp] theorem qAs (s:List UInt8):VE (qf s)=some s:=by
 induction s with
 |nil=>rfl
 |cons a s b=>
  have:VE (qf (a::s))=(VE (qf s)).map fun r=>UInt8.ofNat ((a.toNat:Int)).toNat::r:=rfl;rw[this,b];simp
theorem qoe(x y:Nat)(h:y<256):(x*256)|||y=x*256+y:=by
 have:=Nat.shiftLeft_add_eq_or_of_lt (b:=y) (i:=8) wQ x;rw[Nat.shiftLeft_eq] at this;simpa using this.symm
def qU(b:List UInt8)(a:Nat):Nat:=leN ((b.drop a).take 8)
theorem qeM(b:List UInt8)(a:Nat):qU b a<18446744073709551616:=by
 have h:=qfg ((b.drop a).take 8);have c:((b.drop a).take 8).length<=8:=wG
 exact vh h (zI (qfE wH c) wH)
def kV(b:List UInt8)(a:Nat):Nat:=
 if a % 8≠0 then 3
 else if b.length<a\/b.length-a<16 then 2
 else if(b.getD a 0).toNat<1\/7<(b.getD a 0).toNat then 4
 else if(b.getD (a+1) 0).toNat≠0 then 7
 else if qU b (a+8)<16 then 5
 else if b.length-a<qU b (a+8) then 2
 else 0
def qaz(b:List UInt8)(a:Nat):Nat:=(b.getD a 0).toNat
def ZY(b:List UInt8)(a:Nat):Nat:=qU b (a+8)
theorem qez{b:List UInt8}{a:Nat}(h:kV b a=0):a % 8=0/\a+16<=b.length/\1<=qaz b a/\qaz b a<=7/\16<=ZY b a/\a+ZY b a<=b.length:=by
 unfold kV at h;unfold qaz ZY;split at h
 · omega
 split at h
 · omega
 split at h
 · omega
 split at h
 · omega
 split at h
 · omega
 split at h
 · omega
 omega
def qR(b:List UInt8)(a:Nat):List UInt8:=(b.drop (a+16)).take (ZY b a-16)
theorem qf7{b:List UInt8}{a:Nat}(h:kV b a=0):(qR b a).length=ZY b a-16:=by
 have:=qez h;simp only[qR,jj,vr];omega
def jV(l:List UInt8):List Nat:=(List.range (l.length/8)).map fun i=>qU l (8*i)
@[simp] theorem qdc (l:List UInt8):(jV l).length=l.length/8:=by simp[jV]
theorem qzM{l:List UInt8}{i:Nat}(h:i<l.length/8):(jV l)[i]?=some (qU l (8*i)):=by
 simp[jV,h]
theorem qos{l:List UInt8}{x:Nat}(h:x∈jV l):x<18446744073709551616:=by
 simp only[jV,ZM,List.mem_range] at h;obtain⟨i,_,rfl⟩:=h;exact qeM _ _
def ke(b:List UInt8)(a kind c d:Nat):Nat:=
 if kV b a≠0 then kV b a
 else if qaz b a≠kind then 4
 else if ZY b a<=16+c\/(ZY b a-(16+c)) % d≠0 then 5
 else 0
def Xv(b:List UInt8)(a:Nat):Nat:=ke b a 6 8 8
def kp(b:List UInt8)(a:Nat):List Nat:=jV (qR b a)
def Q7(b:List UInt8)(sz a:Nat):Nat:=if a<sz\/b.length<=a then 2 else Xv b a
def Ym(b:List UInt8)(a:Nat):Bool:=decide (a=0)||decide (b.length<=a)
def KV(b:List UInt8)(most:Nat):List Nat->List Nat->List Nat×Option Nat
 |[],out=>(out,none)
 |x::l,out=>if out.length=most then(out,none)
  else if Ym b x then(out,some 2)
  else if 0<out.length/\x<=out.getLastD 0 then(out,some 13)
  else KV b most l (out++[x])
def qa1(b:List UInt8)(sz most:Nat):Nat->List Nat->Nat->Nat->List Nat×Nat
 |0,out,_,_=>(out,0)
 |n+1,out,at_,d=>if most<=out.length then(out,0)
  else if Ym b at_ then(out,14)
  else if at_<=d then(out,12)
  else if Q7 b sz at_≠0 then(out,Q7 b sz at_)
  else match KV b most (kp b at_).tail out with
   |(a,some c)=>(a,c)
   |(a,none)=>qa1 b sz most n a ((kp b at_).headD 0) at_
structure Pl where
 s:Nat
 r:Nat
 f:D
 i:Nat
def jl(x:Pl):List D:=[.int .u64 (x.s:Nat),.int .u64 (x.r:Nat),x.f,.int .i64 (x.i:Nat)]
def qX(l:List Pl):List D:=l.flatMap jl
@[simp] theorem qnQ (x:Pl):(jl x).length=4:=rfl
theorem Zz:∀l:List Pl,(qX l).length=4*l.length
 |[]=>rfl
 |x::l=>by
  have:=Zz l;simp only[qX,List.flatMap_cons,zp,qnQ,jA] at *;omega
theorem qix(l m:List Pl):qX (l++m)=qX l++qX m:=by simp[qX]
theorem qlp(x:Pl)(m:List Pl):qX (x::m)=jl x++qX m:=by simp[qX]
theorem qlo:∀(l:List Pl)(j:Nat),(qX l).drop (j*4)=qX (l.drop j)
 |l,0=>by simp
 |[],j+1=>by simp[qX]
 |x::l,j+1=>by
  have:=qlo l j;rw[List.drop_succ_cons,<-this,qlp,show(j+1)*4=4+j*4 from wC,<-ky];rfl
theorem qu7{l:List Pl}{j:Nat}(h:j<l.length):((qX l).drop (j*4)).take 4=jl l[j]:=by
 rw[qlo,zZ h,qlp];rfl
theorem qe3{l:List Pl}{j:Nat}(h:j<l.length)(x:Pl):zU (qX l) (j*4) (jl x)=qX (l.set j x):=by
 have c:l=l.take j++l[j]::l.drop (j+1):=by rw[<-zZ h,ZK]
 have a:l.set j x=l.take j++x::l.drop (j+1):=by rw[qgW,if_pos h]
 rw[a];unfold zU
 have b:(qX l).take (j*4)=qX (l.take j):=by
  have e:qX l=qX (l.take j)++qX (l.drop j):=by rw[<-qix,ZK]
  rw[e,List.take_append_of_le_length (by rw[Zz,jj];omega),qJ (by rw[Zz,jj];omega)]
 rw[b,qix,qlp,qnQ,show j*4+4=(j+1)*4 from wC,qlo];simp
theorem qb2{l:List Pl}{j:Nat}{x:Pl}(h:l[j]?=some x):((qX l).drop (j*4)).take 4=jl x:=by
 obtain⟨a,rfl⟩:=List.getElem?_eq_some_iff.1 h;exact qu7 a
theorem qmV(P:List Pl)(x y:Pl)(R:List Pl):((P++y::x::R).set (P.length+1) y).set P.length x=P++x::y::R:=by
 simp
theorem qx3(P:List Pl)(x y:Pl)(R:List Pl):((P++x::y::R).set P.length y).set (P.length+1) x=P++y::x::R:=by
 simp
theorem q4L(l:List Pl)(j:Nat):(qX l).take (j*4)=qX (l.take j):=by
 by_cases h:j<=l.length
 .have e:qX l=qX (l.take j)++qX (l.drop j):=by rw[<-qix,ZK]
  rw[e,List.take_append_of_le_length (by rw[Zz,jj];omega),qJ (by rw[Zz,jj];omega)]
 .rw[qJ (by rw[Zz];omega),qJ wC]
def Qs(a b:Nat):Int:=if a<b then-1 else if b<a then 1 else 0
theorem qb4(a b:Nat):Qs a b<0↔a<b:=by
 unfold Qs;by_cases h:a<b
 .simp[h]
 .by_cases c:b<a<;>simp[h,c]
def Vr(l:List Pl):Prop:=l.Pairwise fun a b=>a.s<=b.s
structure StS (u v:List Pl):Prop where
 rise:Vr v
 len:v.length=u.length
 same:∀k,v.filter (·.s==k)=u.filter (·.s==k)
theorem StS.one(u:List Pl)(h:u.length<=1):StS u u:=by
 match u,h with
 |[],_=>exact⟨List.Pairwise.nil,rfl,fun _=>rfl⟩
 |[x],_=>exact⟨List.pairwise_singleton _ _,rfl,fun _=>rfl⟩
theorem StS.mem{u v:List Pl}(h:StS u v){x:Pl}(hx:x∈v):x∈u:=by
 have:x∈v.filter (·.s==x.s):=List.mem_filter.2 ⟨hx,wE⟩;rw[h.same] at this;exact(List.mem_filter.1 this).1
def Ins(M:List Pl)(x:Pl)(v:List Pl):Prop:=∃A B,A++B=M/\v=A++x::B/\(∀y,y∈B->x.s<y.s)/\∀y,y∈A->y.s<=x.s
theorem q4j(A B:List Pl)(x:Pl)(c:∀y,y∈B->x.s<y.s)(k:Nat):(A++x::B).filter (·.s==k)=(A++B).filter (·.s==k)++[x].filter (·.s==k):=by
 simp only[List.filter_append,List.filter_cons,List.filter_nil,jY];congr 1;by_cases a:x.s=k
 .have:B.filter (·.s==k)=[]:=List.filter_eq_nil_iff.2 fun y b=>by have:=c y b;simp;omega
  simp[a,this]
 .simp[a]
theorem StS.ins{u M:List Pl}(h:StS u M){x:Pl}{v:List Pl}(f:Ins M x v):StS (u++[x]) v:=by
 obtain⟨A,B,rfl,rfl,d,g⟩:=f;have e:=h.rise;have b:=List.pairwise_append.1 e;refine⟨List.pairwise_append.2 ⟨b.1,List.pairwise_cons.2 ⟨fun y a=>qfF (d y a),b.2.1⟩,fun y a z c=>?_⟩,?_,fun k=>?_⟩
 .rcases List.mem_cons.1 c with rfl|c
  .exact g y a
  .exact b.2.2 y a z c
 .have:=h.len;simp at this⊢;omega
 .rw[q4j A B x d k,h.same,List.filter_append]
theorem qfY{A:List Pl}{y:Pl}(h:Vr (A++[y])){n:Nat}(b:y.s<=n):∀z,z∈A++[y]->z.s<=n:=fun z a=>by
 rcases List.mem_append.1 a with a|a
 .exact zI ((List.pairwise_append.1 h).2.2 z a y wE) b
 .rw[List.mem_singleton.1 a];exact b
theorem StS.self{u:List Pl}(h:Vr u):StS u u:=⟨h,rfl,fun _=>rfl⟩
theorem Vu{A B:List Pl}(h:Vr (A++B)):Vr A/\Vr B/\∀x,x∈A->∀y,y∈B->x.s<=y.s:=List.pairwise_append.1 h
theorem qeV{y:Pl}{B:List Pl}(h:Vr (y::B)):∀z,z∈y::B->y.s<=z.s:=fun z a=>by
 rcases List.mem_cons.1 a with rfl|a
 .exact qA _
 .exact(List.pairwise_cons.1 h).1 z a
theorem StS.split{U1 U2 V1 V2 W1 W2:List Pl}(o:Vr (U1++U2))(p:Vr (V1++V2))(n:∀x,x∈U1->∀y,y∈V2->x.s<=y.s)(h:∀x,x∈V1->∀y,y∈U2->x.s<y.s)(f:StS (U1++V1) W1)(d:StS (U2++V2) W2):StS ((U1++U2)++(V1++V2)) (W1++W2):=by
 obtain⟨-,-,j⟩:=Vu o;obtain⟨-,-,l⟩:=Vu p;refine⟨List.pairwise_append.2 ⟨f.rise,d.rise,fun x hx y g=>?_⟩,?_,fun k=>?_⟩
 .rcases List.mem_append.1 (f.mem hx) with a|a<;>rcases List.mem_append.1 (d.mem g) with b|b
  .exact j x a y b
  .exact n x a y b
  .exact qfF (h x a y b)
  .exact l x a y b
 .have:=f.len;have:=d.len;simp at *;omega
 .have e:V1.filter (·.s==k)++U2.filter (·.s==k)=U2.filter (·.s==k)++V1.filter (·.s==k):=by
   by_cases i:V1.filter (·.s==k)=[]
   .rw[i];simp
   .obtain⟨x,hx⟩:=List.exists_mem_of_ne_nil _ i;have c:=List.mem_filter.1 hx
    have:U2.filter (·.s==k)=[]:=List.filter_eq_nil_iff.2 fun y g m=>by
     have:=h x c.1 y g;have a:=c.2;simp at a m;omega
    rw[this];simp
  simp only[List.filter_append,f.same,d.same,jY];rw[<-jY (V1.filter _),e];simp only[jY]
def XY(x:Pl):List Pl->List Pl
 |[]=>[]
 |y::l=>if y.s=x.s then XY y l else y::XY y l
def dd:List Pl->List Pl
 |[]=>[]
 |x::l=>x::XY x l
theorem quK:∀(l:List Pl)(x y:Pl),XY x (l++[y])=XY x l++(if y.s=((x::l).getLast wE).s then[] else[y])
 |[],x,y=>rfl
 |z::l,x,y=>by
  have:=quK l z y;simp only[kC,XY];rw[this];have e:(x::z::l).getLast wE=(z::l).getLast wE:=by rw[List.getLast_cons wE]
  rw[e];by_cases h:z.s=x.s
  .rw[if_pos h,if_pos h]
  .rw[if_neg h,if_neg h];rfl
theorem q4R{l:List Pl}{x y:Pl}(h:l.getLast?=some x):dd (l++[y])=dd l++(if y.s=x.s then[] else[y]):=by
 cases l with
 |nil=>simp at h
 |cons z l=>
  have e:(z::l).getLast wE=x:=by
   rw[List.getLast?_eq_some_getLast wE] at h;injection h
  simp only[kC,dd];rw[quK,e]
theorem qlv:∀(l:List Pl)(x:Pl),(XY x l).Sublist l
 |[],_=>List.Sublist.slnil
 |y::l,x=>by
  unfold XY;split
  .exact(qlv l y).cons y
  .exact(qlv l y).cons_cons y
theorem qlu:∀l:List Pl,(dd l).Sublist l
 |[]=>List.Sublist.slnil
 |x::l=>(qlv l x).cons_cons x
theorem quL:∀(l:List Pl)(x:Pl),Vr (x::l)->(XY x l).Pairwise (fun a b=>a.s<b.s)/\∀y,y∈XY x l->x.s<y.s
 |[],x,_=>⟨List.Pairwise.nil,by simp[XY]⟩
 |y::l,x,h=>by
  obtain⟨i,j⟩:=List.pairwise_cons.1 h;obtain⟨f,d⟩:=quL l y j;have g:=i y wE;unfold XY;by_cases e:y.s=x.s
  .rw[if_pos e];exact⟨f,fun z c=>by have:=d z c;omega⟩
  .rw[if_neg e];refine⟨List.pairwise_cons.2 ⟨d,f⟩,fun z c=>?_⟩;rcases List.mem_cons.1 c with rfl|c
   .omega
   .have:=d z c;omega
theorem q4S{l:List Pl}(h:Vr l):(dd l).Pairwise (fun a b=>a.s<b.s):=by
 cases l with
 |nil=>exact List.Pairwise.nil
 |cons x l=>
  obtain⟨d,c⟩:=quL l x h;exact List.pairwise_cons.2 ⟨c,d⟩
end Go.Ev
namespace Go.Ev.S
open Go Go.Proofs Go.Ev
theorem qo0[MaxL][TxtC](a:Nat):call cx 126 [.int .u64 (a:Nat)] []=some (.bool false,[]):=by
 refine qC Tryz.func126 rfl ⟨rfl,rfl⟩ ?_;simp[Tryz.f126]
theorem ql5[MaxL][TxtC](a b:Nat):call cx 76 [.int .u64 (a:Nat),.int .u64 (b:Nat)] []=some (.int .i64 (Qs a b),[]):=by
 have g:=qo0 a;have h:=qo0 b;refine qC Tryz.func76 rfl ⟨rfl,rfl⟩ ?_;unfold Qs;by_cases e:a<b
 .have c:=zn e;simp[Tryz.f76,g,h,e,c]
 have c:=zq e;by_cases f:b<a
 .have d:=zn f;simp[Tryz.f76,g,h,e,c,f,d]
 .have d:=zq f;simp[Tryz.f76,g,h,e,c,f,d]
theorem qi6[MaxL][TxtC](H:qe)(x y:Pl)(hx:closed H.length x.f=true)(h:closed H.length y.f=true):∃T,call cx 75 [.agg (jl x),.agg (jl y)] H=some (.int .i64 (Qs x.s y.s),T)/\Ext [] H T:=by
 have hc:=ql5 x.s y.s;obtain⟨g,a⟩:=ql (qr H (jl x));obtain⟨d,e2⟩:=ql (qr g (jl y));have e:=zJ a;have c:=zJ e2;have i:=js a;have k:qd d H.length=some (jl x):=c.get i wE;have j:=js e2;have b:closed g.length y.f=true:=jr e.len _ h;refine⟨d,jy Tryz.func75 rfl ⟨rfl,rfl⟩ ?_,e.trans c (NewL.refl _ _)⟩;simp only[jl] at *;simp[-qd,-qr,Tryz.f75,hc,a,e2,k,j,hx,b]
theorem qkF[MaxL][TxtC]{H:qe}{p:Nat}{l:List Pl}(hp:qd H p=some (qX l))(hc:∀x,x∈l->closed H.length x.f=true)(hl:l.length<=1000000)(a b:Nat)(YD:a<=b)(hb:b<=l.length):
  ∃T M,call cx 182 [.osl p (4*l.length) 0 l.length 4,.int .i64 a,.int .i64 b,.fn 75 []] H=some (.tup [],T)/\Ext [p] H T/\StS ((l.drop a).take (b-a)) M/\qd T p=some (qX (l.take a++M++l.drop b)):=by
 have ag:=Zz l;have wa:=qz ((a:Int)+1) ((a+1:Nat):Int)
 have key:∃q,call cx 182 [.osl p (4*l.length) 0 l.length 4,.int .i64 a,.int .i64 b,.fn 75 []] H=some q/\q.1=.tup []/\Ext [p] H q.2/\∃M,StS ((l.drop a).take (b-a)) M/\qd q.2 p=some (qX (l.take a++M++l.drop b)):=by
  refine vz (X:=cx) (f:=182) (fun q=>q.1=.tup []/\Ext [p] H q.2/\∃M,StS ((l.drop a).take (b-a)) M/\qd q.2 p=some (qX (l.take a++M++l.drop b))) Tryz.func182 rfl ⟨rfl,rfl⟩ ?_;simp[-qd,Tryz.f182,wa]
  refine Run.loopThen (fun(i:Nat) e T=>a<i/\qi e 0=some (.osl p (4*l.length) 0 l.length 4)/\qi e 1=some (.int .i64 a)/\qi e 2=some (.int .i64 b)/\qi e 3=some (.fn 75 [])/\qi e 8=some (.int .i64 i)/\Ext [p] H T/\
   ((b=a/\T=H)\/(i<=b/\∃M,M.length=i-a/\StS ((l.drop a).take (i-a)) M/\qd T p=some (qX (l.take a++M++l.drop i))))) (fun i=>b-i) (a+1) ?_ ?_
  .refine⟨wC,wE,wE,wE,wE,wE,Ext.refl _ _,?_⟩;by_cases ac:b=a
   .exact .inl ⟨ac,rfl⟩
   .refine .inr ⟨wC,(l.drop a).take 1,wG,by rw[show a+1-a=1 from wC];exact StS.one _ wG,?_⟩;rw[show a+1=a+1 from rfl,<-ky,jY,ZK,ZK];exact hp
  rintro i e T ⟨ja,p0,p1,p2,p3,p8,hx,w⟩;by_cases qg:i<b
  case neg=>
   have qo:=zq qg;simp[-qd,p0,p1,p2,p3,p8,qo];refine⟨hx,?_⟩;rcases w with⟨rfl,rfl⟩|⟨Q,M,L,u,n⟩
   .refine⟨[],⟨List.Pairwise.nil,wE,wE⟩,?_⟩;rw[QY,ZK];exact hp
   .have:i=b:=wC;subst this;exact⟨M,u,by rw[<-jY];exact n⟩
  have qo:=zn qg;rcases w with⟨h0,-⟩|⟨Q,M,L,u,n⟩
  .omega
  have Yr:=qz ((i:Int)+1) ((i+1:Nat):Int);have ae:l.drop i=l[i]::l.drop (i+1):=zZ wC;have C:=hc l[i] (vQ wC)
  have I:∀v,Ins M l[i] v->StS ((l.drop a).take (i+1-a)) v:=fun v hv=>by
   have:(l.drop a).take (i+1-a)=(l.drop a).take (i-a)++[l[i]]:=by
    rw[show i+1-a=(i-a)+1 from wC,Vs wG];congr 2;rw[List.getElem_drop];congr 1;omega
   rw[this];exact u.ins hv
  have P:∀x,x∈M->closed H.length x.f=true:=fun x hx=>hc x (Z0 (QZ (u.mem hx)));have R:∀x,x∈l->closed H.length x.f=true:=hc;rw[ae] at n;generalize l[i]=x at *;have hX:(l.take a).length=a:=wu
  have hY:(l.drop (i+1)).length=l.length-(i+1):=by rw[vr]
  generalize l.take a=X at *;have ai:l.drop (i+1)=l.drop (i+1):=rfl;simp[-qd,p0,p1,p2,p3,p8,qo]
  refine Run.loopThen (fun(j:Nat) e T=>a<=j/\j<=i/\qi e 0=some (.osl p (4*l.length) 0 l.length 4)/\qi e 1=some (.int .i64 a)/\qi e 2=some (.int .i64 b)/\qi e 3=some (.fn 75 [])/\qi e 8=some (.int .i64 i)/\qi e 9=some (.int .i64 j)/\Ext [p] H T/\
   ∃A B,A.length=j-a/\A++B=M/\(∀y,y∈B->x.s<y.s)/\qd T p=some (qX (X++(A++x::(B++l.drop (i+1)))))) (fun j=>j) i ?_ ?_
  .refine⟨wC,qA _,wE,wE,wE,wE,wE,wE,hx,M,[],wC,wE,wE,by simpa using n⟩
  rintro j e T ⟨Jy,JM,q0,K,E,q3,q8,Y,hx,A,B,hA,c,hB,n⟩;by_cases ZU:a<j
  case neg=>
   have d:=zq ZU;have aa:A=[]:=kx wC;simp[-qd,q0,K,E,q3,q8,Y,d,Yr];subst aa;refine⟨i+1,wC,wC,wC,hx,.inr ⟨wC,x::B,?_,I _ ⟨[],B,wS,rfl,hB,wE⟩,by simpa using n⟩⟩;rw[<-c] at L;simp at L⊢;omega
  have d:=zn ZU;obtain⟨g,y,rfl⟩:∃g y,A=g++[y]:=⟨A.dropLast,A.getLast (fun h=>by rw[h] at hA;simp at hA;omega),(List.dropLast_concat_getLast _).symm⟩;have G:closed H.length y.f=true:=P y (by rw[<-c];simp);obtain⟨k,hk⟩:∃k,j=k+1:=⟨j-1,wC⟩;have F:g.length=k-a:=by simp at hA;omega
  have ah:g.length+1+B.length=i-a:=by rw[<-L,<-c];simp;omega
  obtain⟨W,r⟩:∃W,W=X++(g++y::x::(B++l.drop (i+1))):=⟨_,rfl⟩;have o:qd T p=some (qX W):=by rw[n,r];simp
  have ZE:W.length=l.length:=by rw[r];simp[hX,F,hY];omega
  have wy:W[k]?=some y:=by rw[r,jn wC,jn wC,show k-X.length-g.length=0 from wC];rfl
  have wx:W[j]?=some x:=by rw[r,jn wC,jn wC,show j-X.length-g.length=1 from wC];rfl
  have ey:=qb2 wy;have Z:=qb2 wx;simp only[jl] at ey Z;have R:(qX W).length=4*l.length:=by rw[Zz,ZE]
  obtain⟨t,c1,N⟩:=qi6 T x y (jr hx.len _ C) (jr hx.len _ G);simp only[jl] at c1;have S:=N.get o wE;have wj:=qz ((j:Int)-1) (k:Int);have b1:(j:Int)<(l.length:Int):=wC
  have b2:(k:Int)<(l.length:Int):=wC
  have b3:j*4+4<=4*l.length:=wC
  have b4:k*4+4<=4*l.length:=wC
  have b5:4<=4*l.length-j*4:=wC
  have b6:4<=4*l.length-k*4:=wC
  by_cases vL:x.s<y.s
  case neg=>
   have O:¬Qs x.s y.s<0:=xN;simp[-qd,q0,K,E,q3,q8,Y,d,Yr,o,Z,ey,R,c1,wj,O,b1,b2,b5,b6];have m:Ext [p] H t:=hx.trans (N.mono fun i hi=>wV) (NewL.refl _ _);refine⟨i+1,wC,wC,wC,m,.inr ⟨wC,g++y::x::B,wG,I _ ⟨g++[y],B,c,wE,hB,?_⟩,?_⟩⟩
   .have hr:=u.rise;rw[<-c] at hr;exact qfY (List.pairwise_append.1 hr).1 wC
   .rw[S,r];simp
  have O:Qs x.s y.s<0:=xN
  have s1:=qe3 (l:=W) (j:=j) wC y;have s2:=qe3 (l:=W.set j y) (j:=k) wG x;simp only[jl] at s1 s2;have Jt:t.length=t.length:=rfl;obtain⟨T2,U⟩:=ql (qn t p (qX (W.set j y)));have g2:=kc U S;obtain⟨T3,t3⟩:=ql (qn T2 p (qX ((W.set j y).set k x)));have g3:=kc t3 g2;have x2:=vZ U;have x3:=vZ t3;have m:Ext [p] H t:=hx.trans (N.mono fun i hi=>wV) (NewL.refl _ _);have J:Ext [p] H T3:=(m.trans x2 (NewL.refl _ _)).trans x3 (NewL.refl _ _);have y1:closed t.length y.f=true:=jr m.len _ G;have y2:closed T2.length x.f=true:=jr (m.trans x2 (NewL.refl _ _)).len _ C;have Y3:(qX (W.set j y)).length=4*l.length:=by rw[Zz,vI,ZE]
  simp[-qd,-qn,q0,K,E,q3,q8,Y,d,o,Z,ey,R,c1,wj,O,S,b1,b2,b3,b4,b5,b6,s1,s2,U,t3,g2,Y3,y1,y2];refine⟨k,wC,wC,wC,rfl,J,g,F,y::B,wS,fun z V=>?_,?_⟩
  .rcases List.mem_cons.1 V with rfl|V
   .exact vL
   .exact hB z V
  .rw[g3,r,<-jY,show k=(X++g).length from wG,show j=(X++g).length+1 from wG,qmV];simp
 obtain⟨⟨K,E⟩,h1,h2,h3,M,h4,h5⟩:=key;simp only at h2 h3 h5;subst h2;exact⟨E,M,h1,h3,h4,h5⟩
theorem qjm[MaxL][TxtC]{H:qe}{p:Nat}{l:List Pl}(hp:qd H p=some (qX l))(hc:∀x,x∈l->closed H.length x.f=true)(hl:l.length<=1000000)(P U Q V R:List Pl)(u:l=P++(U++(Q++(V++R))))(a b n:Nat)(ha:P.length=a)(hn:U.length=n)(hb:P.length+(U.length+Q.length)=b)(hv:V.length=n)(g:D):
  ∃T,call cx 266 [.osl p (4*l.length) 0 l.length 4,.int .i64 a,.int .i64 b,.int .i64 n,g] H=some (.tup [],T)/\Ext [p] H T/\qd T p=some (qX (P++(V++(Q++(U++R))))):=by
 have Z:l.length=a+n+Q.length+n+R.length:=by rw[u];simp;omega
 have key:∃q,call cx 266 [.osl p (4*l.length) 0 l.length 4,.int .i64 a,.int .i64 b,.int .i64 n,g] H=some q/\q.1=.tup []/\Ext [p] H q.2/\qd q.2 p=some (qX (P++(V++(Q++(U++R))))):=by
  refine vz (X:=cx) (f:=266) (fun q=>q.1=.tup []/\Ext [p] H q.2/\qd q.2 p=some (qX (P++(V++(Q++(U++R)))))) Tryz.func266 rfl ⟨rfl,rfl⟩ ?_;simp[-qd,Tryz.f266]
  refine Run.loopThen (fun(i:Nat) e T=>i<=n/\qi e 0=some (.osl p (4*l.length) 0 l.length 4)/\qi e 1=some (.int .i64 a)/\qi e 2=some (.int .i64 b)/\qi e 3=some (.int .i64 n)/\qi e 10=some (.int .i64 i)/\Ext [p] H T/\
   qd T p=some (qX (P++(V.take i++(U.drop i++(Q++(U.take i++(V.drop i++R)))))))) (fun i=>n-i) 0 ?_ ?_
  .refine⟨wC,wE,wE,wE,wE,wE,Ext.refl _ _,?_⟩;rw[hp,u];simp
  rintro i e T ⟨hi,L,p1,p2,M,s,hx,h⟩;by_cases qg:i<n
  case neg=>
   have J:=zq qg;simp[-qd,L,p1,p2,M,s,J];refine⟨hx,?_⟩;rw[h,qJ wC,List.drop_of_length_le wC,qJ wC,List.drop_of_length_le wC];simp
  have J:=zn qg;obtain⟨c,ac⟩:∃k,k=a+i:=⟨_,rfl⟩;obtain⟨d,ae⟩:∃k,k=b+i:=⟨_,rfl⟩;have w1:=qz ((a:Int)+(i:Int)) (c:Int);have w2:=qz ((b:Int)+(i:Int)) (d:Int);have w3:=qz ((i:Int)+1) ((i+1:Nat):Int);have eU:U.drop i=U[i]::U.drop (i+1):=zZ wC;have eV:V.drop i=V[i]::V.drop (i+1):=zZ wC;have tU:U.take (i+1)=U.take i++[U[i]]:=Vs wC;have tV:V.take (i+1)=V.take i++[V[i]]:=Vs wC;have cU:closed H.length U[i].f=true:=hc _ (by rw[u];simp);have O:closed H.length V[i].f=true:=hc _ (by rw[u];simp);have lU:(U.take i).length=i:=wu
  have lV:(V.take i).length=i:=wu
  have ag:(U.drop (i+1)).length=n-(i+1):=wv
  have aa:(V.drop (i+1)).length=n-(i+1):=wv
  rw[eU,eV] at h;obtain⟨A,F⟩:∃A,A=P++V.take i:=⟨_,rfl⟩;obtain⟨B,K⟩:∃B,B=U.drop (i+1)++(Q++U.take i):=⟨_,rfl⟩;obtain⟨C,v⟩:∃C,C=V.drop (i+1)++R:=⟨_,rfl⟩;obtain⟨x,E⟩:∃x,x=U[i]:=⟨_,rfl⟩;obtain⟨y,w⟩:∃y,y=V[i]:=⟨_,rfl⟩;rw[<-E] at tU cU h;rw[<-w] at tV O h;have m:P++(V.take (i+1)++(U.drop (i+1)++(Q++(U.take (i+1)++(V.drop (i+1)++R)))))=A++(y::B++(x::C)):=by rw[tU,tV,F,K,v];simp only[jY,kC,QY]
  have r:P++(V.take i++(x::U.drop (i+1)++(Q++(U.take i++(y::V.drop (i+1)++R)))))=A++(x::B++(y::C)):=by rw[F,K,v];simp only[jY,kC]
  rw[r] at h;have l1:A.length=c:=by rw[F,zp];omega
  have l2:B.length+c+1=d:=by rw[K];simp only[zp];omega
  have l3:C.length+d+1=l.length:=by rw[v];simp only[zp];omega
  obtain⟨W,o⟩:∃W,W=A++(x::B++(y::C)):=⟨_,rfl⟩;rw[<-o] at h;have N:W.length=l.length:=by rw[o];simp;omega
  have wx:W[c]?=some x:=by rw[o,jn wC,show c-A.length=0 from wC];rfl
  have wy:W[d]?=some y:=by rw[o,jn wC,jn wG,show d-A.length-(x::B).length=0 from wG];rfl
  have G:(W.set c y).set d x=A++(y::B++(x::C)):=by
   rw[o,<-l1,show d=(A++y::B).length from wG];simp
  have ey:=qb2 wy;have Y:=qb2 wx;simp only[jl] at ey Y;have qE:(qX W).length=4*l.length:=by rw[Zz,N]
  have b1:(c:Int)<(l.length:Int):=wC
  have b2:(d:Int)<(l.length:Int):=wC
  have b3:c*4+4<=4*l.length:=wC
  have b4:d*4+4<=4*l.length:=wC
  have b5:4<=4*l.length-c*4:=wC
  have b6:4<=4*l.length-d*4:=wC
  have S:=qe3 (l:=W) (j:=c) wC y;have s2:=qe3 (l:=W.set c y) (j:=d) wG x;simp only[jl] at S s2;obtain⟨T2,z⟩:=ql (qn T p (qX (W.set c y)));have g2:=kc z h;obtain⟨T3,I⟩:=ql (qn T2 p (qX ((W.set c y).set d x)));have g3:=kc I g2;have x2:=vZ z;have x3:=vZ I;have t:Ext [p] H T3:=(hx.trans x2 (NewL.refl _ _)).trans x3 (NewL.refl _ _);have y1:closed T.length y.f=true:=jr hx.len _ O;have y2:closed T2.length x.f=true:=jr (hx.trans x2 (NewL.refl _ _)).len _ cU;have Y3:(qX (W.set c y)).length=4*l.length:=by rw[Zz,vI,N]
  simp[-qd,-qn,L,p1,p2,M,s,J,w1,w2,w3,h,Y,ey,qE,b1,b2,b3,b4,b5,b6,S,s2,z,I,g2,Y3,y1,y2];exact⟨i+1,wC,wC,wC,t,by rw[m,g3,G]⟩
 obtain⟨⟨q1,q2⟩,h1,h2,h3,h5⟩:=key;simp only at h2 h3 h5;subst h2;exact⟨q2,h1,h3,h5⟩
theorem qoL{A B C E:List Pl}{x:Pl}(h:x∈A++(B++(C++E))):x∈A++(C++(B++E)):=by
 simp only[vj] at h⊢;rcases h with h|h|h|h
 .exact .inl h
 .exact .inr (.inr (.inl h))
 .exact .inr (.inl h)
 .exact .inr (.inr (.inr h))
theorem qym[MaxL][TxtC]{H:qe}{p:Nat}{l:List Pl}(hp:qd H p=some (qX l))(hc:∀x,x∈l->closed H.length x.f=true)(hl:l.length<=1000000)(P U V R:List Pl)(hd:l=P++(U++(V++R)))(a m b:Nat)(ha:P.length=a)(hm:a+U.length=m)(hb:m+V.length=b)(hU:U≠[])(hV:V≠[])(g:D):
  ∃T,call cx 233 [.osl p (4*l.length) 0 l.length 4,.int .i64 a,.int .i64 m,.int .i64 b,g] H=some (.tup [],T)/\Ext [p] H T/\qd T p=some (qX (P++(V++(U++R)))):=by
 have B:l.length=a+U.length+V.length+R.length:=by rw[hd];simp;omega
 have key:∃q,call cx 233 [.osl p (4*l.length) 0 l.length 4,.int .i64 a,.int .i64 m,.int .i64 b,g] H=some q/\q.1=.tup []/\Ext [p] H q.2/\qd q.2 p=some (qX (P++(V++(U++R)))):=by
  refine vz (X:=cx) (f:=233) (fun q=>q.1=.tup []/\Ext [p] H q.2/\qd q.2 p=some (qX (P++(V++(U++R))))) Tryz.func233 rfl ⟨rfl,rfl⟩ ?_;have w0:=qz ((m:Int)-(a:Int)) (U.length:Int);have Y:=qz ((b:Int)-(m:Int)) (V.length:Int);simp[-qd,Tryz.f233,w0,Y];have aa:0<U.length:=List.length_pos_iff.2 hU;have K:0<V.length:=List.length_pos_iff.2 hV;obtain⟨G,F⟩:=ql (P++(V++(U++R)));have C:∀x,x∈G->closed H.length x.f=true:=fun x hx=>hc x (by rw[<-F] at hx;rw[hd];exact qoL hx);rw[F]
  refine Run.loopThen (fun(q:Nat×Nat) e T=>0<q.1/\0<q.2/\qi e 0=some (.osl p (4*l.length) 0 l.length 4)/\qi e 2=some (.int .i64 m)/\qi e 4=some g/\qi e 10=some (.int .i64 q.1)/\qi e 11=some (.int .i64 q.2)/\Ext [p] H T/\
   ∃h c d k,h.length+q.1=m/\c.length=q.1/\d.length=q.2/\h++(d++(c++k))=G/\qd T p=some (qX (h++(c++(d++k))))) (fun q=>q.1+q.2) (U.length,V.length) ?_ ?_
  .exact⟨aa,K,wE,wE,wE,wE,wE,Ext.refl _ _,P,U,V,R,wJ,rfl,rfl,F,by rw[hp,hd]⟩
  rintro⟨i,j⟩ e T ⟨hi,hj,M,p2,W,r,o,hx,h,c,d,k,Q,v,u,n,hg⟩;simp only at hi hj r o Q v u;have ae:l.length=h.length+i+j+k.length:=by rw[B,<-v,<-u];have:=congrArg List.length (n.trans F.symm);simp at this;omega
  have J:(h++(c++(d++k))).length=l.length:=wG
  have w:∀x,x∈h++(c++(d++k))->closed T.length x.f=true:=fun x L=>jr hx.len _ (C x (by rw[<-n];exact qoL L));have S:=qz ((m:Int)-(i:Int)) (h.length:Int);by_cases qT:i=j
  .subst qT;obtain⟨T1,s,y,z⟩:=qjm hg w wC h c [] d k wE h.length m i rfl v wG u g;rw[J] at s;simp[-qd,M,p2,W,r,o,S,s];exact⟨hx.trans y (NewL.refl _ _),by rw[z,<-n];simp⟩
  have A:¬(i:Int)=(j:Int):=wC
  have t:((i:Int) !=(j:Int))=true:=by simp only[bne_iff_ne,ne_eq];exact A
  by_cases qg:j<i
  .have Z:=zn qg;have O:=qz ((i:Int)-(j:Int)) ((i-j:Nat):Int);have N:c=c.take j++c.drop j:=(ZK j c).symm;have I:(c.take j).length=j:=wu;have E:(c.drop j).length=i-j:=wv;obtain⟨T1,s,y,z⟩:=qjm hg w wC h (c.take j) (c.drop j) d k (by rw[<-jY (c.take j),<-N]) h.length m j rfl I wC u g;rw[J] at s;simp[-qd,M,p2,W,r,o,S,s,t,Z,O];refine⟨i-j,j,wC,wC,hj,rfl,rfl,hx.trans y (NewL.refl _ _),h++d,by rw[zp];omega,_,E,_,I,k,?_,by rw[z];simp only[jY]⟩;rw[<-n,<-jY (c.take j),ZK];simp only[jY]
  .have Z:=zq qg;have O:=qz ((j:Int)-(i:Int)) ((j-i:Nat):Int);have N:d=d.take (j-i)++d.drop (j-i):=(ZK _ d).symm;have I:(d.take (j-i)).length=j-i:=wu;have E:(d.drop (j-i)).length=i:=wv;have wm:=qz ((m:Int)+(j:Int)) ((m+j:Nat):Int);have ac:=qz ((m:Int)+(j:Int)-(i:Int)) ((m+j-i:Nat):Int);obtain⟨T1,s,y,z⟩:=qjm hg w wC h c (d.take (j-i)) (d.drop (j-i)) k (by rw[<-jY (d.take _),<-N]) h.length (m+j-i) i rfl v wC E g;rw[J] at s;simp[-qd,M,p2,W,r,o,S,s,t,Z,O,wm,ac];refine⟨i,j-i,wC,wC,wC,rfl,rfl,hx.trans y (NewL.refl _ _),h,wC,_,E,_,I,c++k,?_,by rw[z]⟩;rw[<-n,<-jY (d.take _),ZK]
 obtain⟨⟨q1,q2⟩,Q,v,u,h5⟩:=key;simp only at v u h5;subst v;exact⟨q2,Q,u,h5⟩
theorem qgx{i j:Nat}(h:i+j<1000000000):IntKind.i64.wrap ((i:Int)+(j:Int))=(i:Int)+(j:Int)/\IntKind.i64.wrap ((IntKind.u64.wrap ((i:Int)+(j:Int))).fdiv (2^min 1 IntKind.u64.bits))=(((i+j)/2:Nat):Int):=by
 have e:=zg ((i:Int)+(j:Int)) ((i+j:Nat):Int);refine⟨by rw[wrap_i64]<;>omega,?_⟩;rw[e]
 have:((i+j:Nat):Int).fdiv (2^min 1 IntKind.u64.bits)=(((i+j)/2:Nat):Int):=by
  rw[show(2:Int)^min 1 IntKind.u64.bits=2 from rfl,Int.fdiv_eq_ediv_of_nonneg _ wH];omega
 rw[this,wrap_i64]<;>omega
theorem qcL{l:List Pl}{i:Nat}(h:i<l.length):∃x,l[i]?=some x/\((qX l).drop (i*4)).take 4=jl x:=⟨l[i],qN h,qu7 h⟩
theorem qmx{T:qe}{p:Nat}{W:List Pl}{n k j:Nat}{x y:Pl}(m:qd T p=some (qX W))(q:W.length=n)(h:W[k]?=some x)(o:W[j]?=some y)(hx:closed T.length x.f=true)(_:closed T.length y.f=true):
  ∃c a g T2 d,qd T p=some c/\c.length=4*n/\(c.drop (k*4)).take 4=jl x/\(c.drop (j*4)).take 4=jl y/\zU c (k*4) (jl y)=a/\qn T p a=T2/\qd T2 p=some a/\a.length=4*n/\zU a (j*4) (jl x)=g/\qn T2 p g=d/\
   qd d p=some (qX ((W.set k y).set j x))/\Ext [p] T d/\closed T2.length x.f=true/\(k:Int)<(n:Int)/\(j:Int)<(n:Int)/\k*4+4<=4*n/\j*4+4<=4*n/\4<=4*n-k*4/\4<=4*n-j*4:=by
 have b:=(List.getElem?_eq_some_iff.1 h).1;have s:=(List.getElem?_eq_some_iff.1 o).1;have i:qd (qn T p (qX (W.set k y))) p=some (qX (W.set k y)):=zk (qx m);have r:=qe3 (l:=W) b y;have t:=qe3 (l:=W.set k y) (j:=j) (by simpa using s) x;have e:Ext [p] T (qn T p (qX (W.set k y))):=Ext.set T p _;refine⟨qX W,qX (W.set k y),qX ((W.set k y).set j x),_,_,m,by rw[Zz,q],qb2 h,qb2 o,r,rfl,i,by rw[Zz,vI,q],t,rfl,zk (qx i),e.trans (Ext.set _ p _) (NewL.refl _ _),jr e.len _ hx,wC,wC,wC,wC,wC,wC⟩
def qeC(H:qe)(p:Nat)(P U V R:List Pl)(q:D×qe):Prop:=q.1=.tup []/\Ext [p] H q.2/\∃W,StS (U++V) W/\qd q.2 p=some (qX (P++(W++R)))
theorem qwH[MaxL][TxtC]{H:qe}{p:Nat}{l:List Pl}(hp:qd H p=some (qX l))(hc:∀x,x∈l->closed H.length x.f=true)(hl:l.length<=1000000)(P:List Pl)(x:Pl)(V R:List Pl)(r:l=P++(x::(V++R)))(a m b:Nat)(ha:P.length=a)(hm:a+1=m)(hb:m+V.length=b)(hV:Vr V):
  ∃q,call cx 183 [.osl p (4*l.length) 0 l.length 4,.int .i64 a,.int .i64 m,.int .i64 b,.fn 75 []] H=some q/\qeC H p P [x] V R q:=by
 have av:l.length=a+1+V.length+R.length:=by rw[r];simp;omega
 refine vz (X:=cx) (f:=183) (qeC H p P [x] V R) Tryz.func183 rfl ⟨rfl,rfl⟩ ?_;have w0:=qz ((m:Int)-(a:Int)) 1;simp[-qd,Tryz.f183,w0]
 refine Run.loopThen (fun(q:Nat×Nat) e T=>m<=q.1/\q.1<=q.2/\q.2<=b/\qi e 0=some (.osl p (4*l.length) 0 l.length 4)/\qi e 1=some (.int .i64 a)/\qi e 4=some (.fn 75 [])/\qi e 10=some (.int .i64 q.1)/\qi e 11=some (.int .i64 q.2)/\Ext [] H T/\
  (q.1=m\/∀y,l[q.1-1]?=some y->y.s<x.s)/\(q.2=b\/∀y,l[q.2]?=some y->x.s<=y.s)) (fun q=>q.2-q.1) (m,b) ?_ ?_
 .exact⟨qA _,wJ,qA _,wE,wE,wE,wE,wE,Ext.refl _ _,.inl rfl,.inl rfl⟩
 rintro⟨i,j⟩ e T ⟨h1,h2,h3,p0,p1,p4,t,o,hx,kl,Y⟩;simp only at h1 h2 h3 t o kl Y;by_cases qg:i<j
 .have N:=zn qg;obtain⟨w1,O⟩:=qgx (i:=i) (j:=j) wC;obtain⟨h,hh⟩:∃h,h=(i+j)/2:=⟨_,rfl⟩;rw[<-hh] at O;have wh:=qz ((h:Int)+1) ((h+1:Nat):Int);obtain⟨y,B,ey⟩:=qcL (l:=l) (i:=h) wC;have K:l[a]?=some x:=by rw[r,jn wC,ha,Nat.sub_self];rfl
  have ex:=qb2 K;have cx:=jr hx.len _ (hc x (jH K));have W:=jr hx.len _ (hc y (jH B));have w:=hx.get hp wE;obtain⟨T1,c1,x1⟩:=qi6 T y x W cx;simp only[jl] at c1 ex ey;have qE:(qX l).length=4*l.length:=Zz l;have b1:(a:Int)<(l.length:Int):=wC
  have b2:(h:Int)<(l.length:Int):=wC
  have b3:a*4+4<=4*l.length:=wC
  have b4:h*4+4<=4*l.length:=wC
  have b5:4<=4*l.length-a*4:=wC
  have b6:4<=4*l.length-h*4:=wC
  by_cases vL:y.s<x.s
  .have Q:Qs y.s x.s<0:=xN;simp[-qd,p0,p1,p4,t,o,N,w1,O,wh,w,ex,ey,qE,b1,b2,b5,b6,c1,Q];exact⟨h+1,j,wC,wC,wC,h3,wC,rfl,hx.trans x1 (NewL.refl _ _),.inr (fun z d=>by simp at d;rw[B] at d;cases d;exact vL),Y⟩
  .have Q:¬Qs y.s x.s<0:=xN;simp[-qd,p0,p1,p4,t,o,N,w1,O,w,ex,ey,qE,b1,b2,b5,b6,c1,Q];exact⟨i,h,wC,h1,wC,wC,rfl,rfl,hx.trans x1 (NewL.refl _ _),kl,.inr (fun z d=>by rw[B] at d;cases d;omega)⟩
 .have N:=zq qg;have qT:i=j:=by omega
  subst qT;obtain⟨V1,V2,Vn,Y6⟩:∃V1 V2,V=V1++V2/\m+V1.length=i:=⟨V.take (i-m),V.drop (i-m),(ZK _ _).symm,wu⟩;subst Vn;have Zu:qd T p=some (qX l):=hx.get hp wE;have U:Ext [p] H T:=hx.mono fun i hi=>by simp at hi
  have wi:=qz ((i:Int)-1) ((i-1:Nat):Int);have g:=Vu hV
  have aj:∀y,y∈V1->y.s<x.s:=by
   rcases kl with I|I
   .have:V1=[]:=kx wC;rw[this];simp
   .rcases List.eq_nil_or_concat V1 with zw|⟨A,y,rfl⟩
    .rw[zw];simp
    .have v:=I y (by
      rw[r,show P++x::(A.concat y++V2++R)=(P++x::A)++(y::(V2++R)) from wE,jn (by simp at Y6⊢;omega),show i-1-(P++x::A).length=0 by simp at Y6⊢;omega];rfl)
     intro z d;simp only[List.concat_eq_append] at d g;exact Nat.lt_of_le_of_lt (qfY g.1 (qA _) z d) v
  have ao:∀y,y∈V2->x.s<=y.s:=by
   rcases Y with I|I
   .have:V2=[]:=kx (by simp at hb;omega);rw[this];simp
   .cases u:V2 with
    |nil=>simp
    |cons y C=>
     have v:=I y (by
      rw[r,u,show P++x::(V1++y::C++R)=(P++x::V1)++(y::(C++R)) from wE,jn wG,show i-(P++x::V1).length=0 from wG];rfl)
     intro z d;rw[u] at g;exact zI v (qeV g.2.1 z d)
  have Z:StS ([x]++(V1++V2)) (V1++x::V2):=by
   have:=StS.split (U1:=[]) (U2:=[x]) (V1:=V1) (V2:=V2) (W1:=V1) (W2:=x::V2) (List.pairwise_singleton _ _) hV wE (fun z d y B=>by simp at B;subst B;exact aj z d) (StS.self g.1) (StS.self (List.pairwise_cons.2 ⟨ao,g.2.1⟩));simpa using this
  simp[-qd,p0,p1,p4,t,o,N]
  refine Run.loopThen (fun(k:Nat) e T=>a<=k/\k+1<=i/\qi e 0=some (.osl p (4*l.length) 0 l.length 4)/\qi e 10=some (.int .i64 i)/\qi e 13=some (.int .i64 k)/\Ext [p] H T/\
   qd T p=some (qX (P++(V1.take (k-a)++(x::(V1.drop (k-a)++(V2++R))))))) (fun k=>i-k) a ?_ ?_
  .refine⟨qA _,wC,wE,wE,wE,U,?_⟩;rw[Zu,r];simp
  rintro k e T ⟨k1,k2,q0,J,F,hx,w⟩;by_cases vC:k+1<i
  .have n:(k:Int)<((i-1:Nat):Int):=wC;obtain⟨j,hj⟩:∃j,j=k+1:=⟨_,rfl⟩;have wk:=qz ((k:Int)+1) (j:Int);have e1:V1.drop (k-a)=V1[k-a]' wC::V1.drop (j-a):=(by rw[zZ wC];congr 2;omega);have e2:V1.take (j-a)=V1.take (k-a)++[V1[k-a]' wC]:=(by rw[show j-a=(k-a)+1 from wC,Vs wC]);obtain⟨y,G⟩:∃y,y=V1[k-a]' wC:=⟨_,rfl⟩;have E:y∈V1:=(by rw[G];exact vQ _);rw[<-G] at e1 e2;rw[e1] at w;obtain⟨A,hA⟩:∃A,A=P++V1.take (k-a):=⟨_,rfl⟩;have M:A.length=k:=(by rw[hA,zp,jj];omega);obtain⟨C,hC⟩:∃C,C=V1.drop (j-a)++(V2++R):=⟨_,rfl⟩;have L:P++(V1.take (k-a)++(x::(y::V1.drop (j-a)++(V2++R))))=A++x::y::C:=(by rw[hA,hC];simp only[jY,kC]);have S:P++(V1.take (j-a)++(x::(V1.drop (j-a)++(V2++R))))=A++y::x::C:=(by rw[hA,hC,e2];simp only[jY,kC,QY]);rw[L] at w;have ZE:(A++x::y::C).length=l.length:=(by rw[<-L,r];simp;omega);obtain⟨c,c2,c3,T2,T3,f1,f2,f3,f4,f5,f6,f7,f8,f9,ah,ak,ai,ag,au,am,aa,ae,ac,aq⟩:=qmx (k:=k) (j:=j) (x:=x) (y:=y) w ZE (by rw[jn wC,M,Nat.sub_self];rfl) (by rw[jn wC,M,show j-k=1 from wC];rfl) (jr hx.len _ (hc x (by rw[r];simp))) (jr hx.len _ (hc y (by rw[r];simp[E])));have W:=jr hx.len _ (hc y (by rw[r];simp[E]));simp only[jl] at f3 f4 f5 f9;simp[-qd,-qn,q0,J,F,wi,wk,n,f1,f2,f3,f4,f5,f6,f7,f8,f9,ah,ag,au,am,aa,ae,ac,aq,W];exact⟨j,wC,wC,wC,rfl,hx.trans ai (NewL.refl _ _),by rw[ak,S,<-M,hj,<-M,qx3]⟩
  .have n:¬(k:Int)<((i-1:Nat):Int):=wC;simp[-qd,q0,J,F,wi,n];have hk:k-a=V1.length:=wC;exact⟨rfl,hx,_,Z,by rw[w,hk,qJ (qA _),List.drop_of_length_le (qA _)];simp⟩
theorem qwG[MaxL][TxtC]{H:qe}{p:Nat}{l:List Pl}(hp:qd H p=some (qX l))(hc:∀x,x∈l->closed H.length x.f=true)(hl:l.length<=1000000)(P U:List Pl)(y:Pl)(R:List Pl)(B:l=P++(U++(y::R)))(a m b:Nat)(ha:P.length=a)(hm:a+U.length=m)(hb:m+1=b)(hU:Vr U)(K:U.length≠1):
  ∃q,call cx 183 [.osl p (4*l.length) 0 l.length 4,.int .i64 a,.int .i64 m,.int .i64 b,.fn 75 []] H=some q/\qeC H p P U [y] R q:=by
 have az:l.length=a+U.length+1+R.length:=by rw[B];simp;omega
 refine vz (X:=cx) (f:=183) (qeC H p P U [y] R) Tryz.func183 rfl ⟨rfl,rfl⟩ ?_;obtain⟨u,hu⟩:∃u,u=U.length:=⟨_,rfl⟩;have w0:=qz ((m:Int)-(a:Int)) (u:Int);have ao:=qz ((b:Int)-(m:Int)) 1;have am:¬(u:Int)=1:=wC
 have aq:((u:Int)==1)=false:=by simp only[beq_eq_false_iff_ne];exact am
 simp[-qd,Tryz.f183,w0,ao,aq]
 refine Run.loopThen (fun(q:Nat×Nat) e T=>a<=q.1/\q.1<=q.2/\q.2<=m/\qi e 0=some (.osl p (4*l.length) 0 l.length 4)/\qi e 2=some (.int .i64 m)/\qi e 4=some (.fn 75 [])/\qi e 14=some (.int .i64 q.1)/\qi e 15=some (.int .i64 q.2)/\Ext [] H T/\
  (q.1=a\/∀z,l[q.1-1]?=some z->z.s<=y.s)/\(q.2=m\/∀z,l[q.2]?=some z->y.s<z.s)) (fun q=>q.2-q.1) (a,m) ?_ ?_
 .exact⟨qA _,wJ,qA _,wE,wE,wE,wE,wE,Ext.refl _ _,.inl rfl,.inl rfl⟩
 rintro⟨i,j⟩ e T ⟨h1,h2,h3,p0,p2,p4,w,t,hx,kl,W⟩;simp only at h1 h2 h3 w t kl W;by_cases qg:i<j
 .have N:=zn qg;obtain⟨w1,O⟩:=qgx (i:=i) (j:=j) wC;obtain⟨h,hh⟩:∃h,h=(i+j)/2:=⟨_,rfl⟩;rw[<-hh] at O;have wh:=qz ((h:Int)+1) ((h+1:Nat):Int);obtain⟨z,hz,ez⟩:=qcL (l:=l) (i:=h) wC;have F:l[m]?=some y:=by rw[B,jn wC,jn wC,show m-P.length-U.length=0 from wC];rfl
  have ey:=qb2 F;have M:=jr hx.len _ (hc z (jH hz));have cy:=jr hx.len _ (hc y (jH F));have E:=hx.get hp wE;obtain⟨T1,c1,x1⟩:=qi6 T y z cy M;simp only[jl] at c1 ez ey;have qE:(qX l).length=4*l.length:=Zz l;have b1:(m:Int)<(l.length:Int):=wC
  have b2:(h:Int)<(l.length:Int):=wC
  have b3:m*4+4<=4*l.length:=wC
  have b4:h*4+4<=4*l.length:=wC
  have b5:4<=4*l.length-m*4:=wC
  have b6:4<=4*l.length-h*4:=wC
  by_cases vL:y.s<z.s
  .have Q:Qs y.s z.s<0:=xN;simp[-qd,p0,p2,p4,w,t,N,w1,O,E,ez,ey,qE,b1,b2,b5,b6,c1,Q];exact⟨i,h,wC,h1,wC,wC,rfl,rfl,hx.trans x1 (NewL.refl _ _),kl,.inr (fun v n=>by rw[hz] at n;cases n;exact vL)⟩
  .have Q:¬Qs y.s z.s<0:=xN;have jR:0<=Qs y.s z.s:=wC;simp[-qd,p0,p2,p4,w,t,N,w1,O,wh,E,ez,ey,qE,b1,b2,b5,b6,c1,Q];exact⟨h+1,j,wC,wC,wC,h3,wC,rfl,hx.trans x1 (NewL.refl _ _),.inr (fun v n=>by simp at n;rw[hz] at n;cases n;omega),W⟩
 .have N:=zq qg;have qT:i=j:=by omega
  subst qT;obtain⟨U1,U2,d,Y6⟩:∃U1 U2,U=U1++U2/\a+U1.length=i:=⟨U.take (i-a),U.drop (i-a),(ZK _ _).symm,wu⟩;have Zu:qd T p=some (qX l):=hx.get hp wE;have V:Ext [p] H T:=hx.mono fun i hi=>by simp at hi
  have r:=Vu (d▸hU);have aB:U.length=U1.length+U2.length:=by rw[d,zp]
  have K:∀z,z∈U1->z.s<=y.s:=by
   rcases kl with G|G
   .have:U1=[]:=kx wC;rw[this];simp
   .rcases List.eq_nil_or_concat U1 with zw|⟨A,z,o⟩
    .rw[zw];simp
    .rw[List.concat_eq_append] at o;have aA:U1.length=A.length+1:=by rw[o];simp
     have Qw:=G z (by
      rw[B,d,o,show P++(A++[z]++U2++y::R)=(P++A)++(z::(U2++y::R)) from wE,jn wG,show i-1-(P++A).length=0 from wG];rfl)
     intro v n;rw[o] at r n;exact qfY r.1 Qw v n
  have aa:∀z,z∈U2->y.s<z.s:=by
   rcases W with G|G
   .have:U2=[]:=kx wC;rw[this];simp
   .cases Q2:U2 with
    |nil=>simp
    |cons z C=>
     have Qw:=G z (by
      rw[B,d,Q2,show P++(U1++z::C++y::R)=(P++U1)++(z::(C++y::R)) from wE,jn wG,show i-(P++U1).length=0 from wG];rfl)
     intro v n;rw[Q2] at r;exact vh Qw (qeV r.2.1 v n)
  have Y:StS (U++[y]) (U1++y::U2):=(StS.self hU).ins ⟨U1,U2,d.symm,rfl,aa,K⟩;simp[-qd,p0,p2,p4,w,t,N]
  refine Run.loopThen (fun(k:Nat) e T=>i<=k/\k<=m/\qi e 0=some (.osl p (4*l.length) 0 l.length 4)/\qi e 14=some (.int .i64 i)/\qi e 17=some (.int .i64 k)/\Ext [p] H T/\
   qd T p=some (qX (P++(U.take (k-a)++(y::(U.drop (k-a)++R)))))) (fun k=>k) m ?_ ?_
  .refine⟨wC,qA _,wE,wE,wE,V,?_⟩;rw[Zu,B,qJ wC,List.drop_of_length_le wC];simp
  rintro k e T ⟨k1,k2,q0,I,L,hx,E⟩;by_cases vC:i<k
  .have g:=zn vC;obtain⟨j,hj⟩:∃j,k=j+1:=⟨k-1,wC⟩;have wk:=qz ((k:Int)-1) (j:Int);have e1:U.drop (j-a)=U[j-a]' wC::U.drop (k-a):=(by rw[zZ wC];congr 2;omega);have e2:U.take (k-a)=U.take (j-a)++[U[j-a]' wC]:=(by rw[show k-a=(j-a)+1 from wC,Vs wC]);obtain⟨z,J⟩:∃z,z=U[j-a]' wC:=⟨_,rfl⟩;have ac:z∈U:=(by rw[J];exact vQ _);rw[<-J] at e1 e2;rw[e2] at E;obtain⟨A,hA⟩:∃A,A=P++U.take (j-a):=⟨_,rfl⟩;have lA:A.length=j:=(by rw[hA,zp,jj];omega);obtain⟨C,Z⟩:∃C,C=U.drop (k-a)++R:=⟨_,rfl⟩;have ax:P++(U.take (j-a)++[z]++(y::(U.drop (k-a)++R)))=A++z::y::C:=(by rw[hA,Z];simp only[jY,kC,QY]);have S:P++(U.take (j-a)++(y::(U.drop (j-a)++R)))=A++y::z::C:=(by rw[hA,Z,e1];simp only[jY,kC]);rw[ax] at E;have Kt:C.length=U.length-(k-a)+R.length:=(by rw[Z,zp,vr]);have ZE:(A++z::y::C).length=l.length:=(by simp only[zp,jA];omega);have M:=jr hx.len _ (hc z (by rw[B];simp[ac]));obtain⟨c,c2,c3,T2,T3,f1,f2,f3,f4,f5,f6,f7,f8,f9,aj,au,ak,ai,ay,av,ae,ah,ag,aw⟩:=qmx (k:=k) (j:=j) (x:=y) (y:=z) E ZE (by rw[jn wC,lA,show k-j=1 from wC];rfl) (by rw[jn wC,lA,Nat.sub_self];rfl) (jr hx.len _ (hc y (by rw[B];simp))) M;simp only[jl] at f3 f4 f5 f9;simp[-qd,-qn,q0,I,L,wk,g,f1,f2,f3,f4,f5,f6,f7,f8,f9,aj,ai,ay,av,ae,ah,ag,aw,M];exact⟨j,wC,wC,wC,rfl,hx.trans ak (NewL.refl _ _),by rw[au,S,hj,<-lA,qmV]⟩
  .have g:=zq vC;simp[-qd,q0,I,L,g];have hk:k-a=U1.length:=wC;have t1:U.take (k-a)=U1:=(by rw[d,hk];simp);have t2:U.drop (k-a)=U2:=(by rw[d,hk];simp);exact⟨rfl,hx,_,Y,by rw[E,t1,t2];simp⟩
end Go.Ev.S
namespace Go.Ev
open Go Go.Proofs
section
variable {X:Cx} {f nt n0:Nat} {Q:Ex->qu->qe->Prop} {fs:List Fr} {a b c d:Code} {e:qu} {H:qe}
theorem qx9{o:Option (Ex×qu×qe)}:Run X f nt n0 Q (.seq (.seq a b)::fs) o=Run X f nt n0 Q (.seq a:: .seq b::fs) o:=by
 match o with
 |none=>rw[Qa,Qa]
 |some (.normal,e,H)=>rw[qeU,qeU,qbH]
 |some (.exit i,e,H)=>rw[qfV,qfV,qfV]
 |some (.ret,e,H)=>rw[qfU,qfU,qfU]
theorem qx8:Run X f nt n0 Q fs (zl X f nt n0 (.seq a (.seq b c)) e H)=Run X f nt n0 Q (.seq c::fs) (zl X f nt n0 (.seq a b) e H):=by
 rw[qbH,qbH,qx9]
end
end Go.Ev
namespace Go.Ev.S
open Go Go.Proofs Go.Ev
theorem qwF[MaxL][TxtC]:∀(N:Nat){H:qe}{p:Nat}{l:List Pl}(_:qd H p=some (qX l))(_:∀x,x∈l->closed H.length x.f=true)(_:l.length<=1000000)(P U V R:List Pl)(_:l=P++(U++(V++R)))(a m b:Nat)(_:P.length=a)(_:a+U.length=m)(_:m+V.length=b)(_:Vr U)(_:Vr V)(_:U≠[])(_:V≠[])(_:b-a<=N),
  ∃q,call cx 183 [.osl p (4*l.length) 0 l.length 4,.int .i64 a,.int .i64 m,.int .i64 b,.fn 75 []] H=some q/\qeC H p P U V R q:=by
 intro N
 induction N with
 |zero=>
  intro H p l hp hc hl P U V R L a m b ha hm hb hU hV ak aF hN;have:=List.length_pos_iff.2 ak;omega
 |succ N ih=>
 intro H p l hp hc hl P U V R L a m b ha hm hb hU hV ak aF hN;have aQ:=List.length_pos_iff.2 ak;have aP:=List.length_pos_iff.2 aF;by_cases aE:U.length=1
 .match U,aE with
  |[x],_=>exact qwH hp hc hl P x V R (by simpa using L) a m b ha hm hb hV
 by_cases aM:V.length=1
 .match V,aM with
  |[y],_=>exact qwG hp hc hl P U y R (by simpa using L) a m b ha hm hb hU aE
 have aO:l.length=a+U.length+V.length+R.length:=by rw[L];simp;omega
 refine vz (X:=cx) (f:=183) (qeC H p P U V R) Tryz.func183 rfl ⟨rfl,rfl⟩ ?_;obtain⟨u,hu⟩:∃u,u=U.length:=⟨_,rfl⟩;obtain⟨v,J⟩:∃v,v=V.length:=⟨_,rfl⟩;have w0:=qz ((m:Int)-(a:Int)) (u:Int);have av:=qz ((b:Int)-(m:Int)) (v:Int);have aD:¬(u:Int)=1:=wC
 have aC:¬(v:Int)=1:=wC
 have ax:((u:Int)==1)=false:=by simp only[beq_eq_false_iff_ne];exact aD
 have jD:((v:Int)==1)=false:=by simp only[beq_eq_false_iff_ne];exact aC
 obtain⟨w1,w2⟩:=qgx (i:=a) (j:=b) wC;obtain⟨d,az⟩:∃k,k=(a+b)/2:=⟨_,rfl⟩;rw[<-az] at w2;obtain⟨n,hn⟩:∃n,n=d+m:=⟨_,rfl⟩;have w3:=qz ((d:Int)+(m:Int)) (n:Int);have w5:=qz ((n:Int)-1) ((n-1:Nat):Int)
 obtain⟨K,hi,ao,aA⟩:∃K hi:Nat,(a<=K/\K<=hi/\hi<=m/\n<=K+b/\m<=n-hi/\hi<=n/\(K=a\/n=K+b)/\(hi=m\/n=hi+m))/\((d<m/\(n:Int)-(b:Int)=(K:Int)/\hi=d)\/(¬d<m/\K=a/\hi=m)):=by
  by_cases zM:d<m
  .exact⟨n-b,d,wC,.inl ⟨zM,wC,rfl⟩⟩
  .exact⟨a,m,wC,.inr ⟨zM,rfl,rfl⟩⟩
 obtain⟨k1,k2,k3,k4,k5,k6,k7,k8⟩:=ao;have aH:=qz (K:Int) (K:Int);have qE:(qX l).length=4*l.length:=Zz l;rcases aA with⟨zM,kl,Q0⟩|⟨zM,kl,Q0⟩
 case' neg.inl=>
  have G:(d:Int)<(m:Int):=wC
  simp[-qd,Tryz.f183,w0,av,ax,jD,w1,w2,w3,G,aH,kl,w5]
 case' neg.inr=>
  have G:¬(d:Int)<(m:Int):=wC
  simp[-qd,Tryz.f183,w0,av,ax,jD,w1,w2,w3,G,w5]
 all_goals
  clear w1 w2 w5 aD aC ax jD w0 av G
  refine Run.loopThen (fun(q:Nat×Nat) e T=>K<=q.1/\q.1<=q.2/\q.2<=hi/\qi e 0=some (.osl p (4*l.length) 0 l.length 4)/\qi e 1=some (.int .i64 a)/\qi e 2=some (.int .i64 m)/\qi e 3=some (.int .i64 b)/\qi e 4=some (.fn 75 [])/\qi e 18=some (.int .i64 d)/\qi e 19=some (.int .i64 n)/\qi e 20=some (.int .i64 q.1)/\qi e 21=some (.int .i64 q.2)/\qi e 22=some (.int .i64 (n-1:Nat))/\Ext [] H T/\
   (q.1=K\/∀x y,l[q.1-1]?=some x->l[n-q.1]?=some y->x.s<=y.s)/\(q.2=hi\/∀x y,l[q.2]?=some x->l[n-1-q.2]?=some y->y.s<x.s)) (fun q=>q.2-q.1) (K,hi) ?_ ?_
  .exact⟨qA _,k2,qA _,wE,wE,wE,wE,wE,wE,wE,by simp[kl],by simp[Q0],wE,Ext.refl _ _,.inl rfl,.inl rfl⟩
  rintro⟨i,j⟩ e T ⟨h1,h2,h3,p0,p1,p2,p3,p4,ai,aw,ac,O,au,hx,hL,hR⟩;simp only at h1 h2 h3 ac O hL hR;by_cases qg:i<j
  .have qo:=zn qg;obtain⟨w1,w2⟩:=qgx (i:=i) (j:=j) wC;obtain⟨h,hh⟩:∃h,h=(i+j)/2:=⟨_,rfl⟩;rw[<-hh] at w2;have wh:=qz ((h:Int)+1) ((h+1:Nat):Int);obtain⟨g,Xj⟩:∃g,g=n-1-h:=⟨_,rfl⟩;have wg:=qz (((n-1:Nat):Int)-(h:Int)) (g:Int);obtain⟨x,VX,ex⟩:=qcL (l:=l) (i:=h) wC;obtain⟨y,aj,ey⟩:=qcL (l:=l) (i:=g) wC;have aL:=jr hx.len _ (hc x (jH VX));have aI:=jr hx.len _ (hc y (jH aj));have hg:=hx.get hp wE;obtain⟨T1,M,x1⟩:=qi6 T y x aI aL;simp only[jl] at M ex ey;have b1:(g:Int)<(l.length:Int):=wC;have b2:(h:Int)<(l.length:Int):=wC;have b3:g*4+4<=4*l.length:=wC;have b4:h*4+4<=4*l.length:=wC;have b5:4<=4*l.length-g*4:=wC;have b6:4<=4*l.length-h*4:=wC;by_cases vL:y.s<x.s
   .have hn:Qs y.s x.s<0:=xN;have jR:¬0<=Qs y.s x.s:=wC;simp[-qd,p0,p1,p2,p3,p4,ai,aw,ac,O,au,qo,w1,w2,wg,hg,ex,ey,qE,b1,b2,b5,b6,M,hn];exact⟨i,h,wC,h1,wC,wC,rfl,rfl,hx.trans x1 (NewL.refl _ _),hL,.inr (fun v z J Z=>by rw[VX] at J;cases J;rw[<-Xj,aj] at Z;cases Z;exact vL)⟩
   .have hn:¬Qs y.s x.s<0:=xN;have jR:0<=Qs y.s x.s:=wC;simp[-qd,p0,p1,p2,p3,p4,ai,aw,ac,O,au,qo,w1,w2,wh,wg,hg,ex,ey,qE,b1,b2,b5,b6,M,hn];exact⟨h+1,j,wC,wC,wC,h3,wC,rfl,hx.trans x1 (NewL.refl _ _),.inr (fun v z J Z=>by simp at J;rw[VX] at J;cases J;rw[show n-(h+1)=g from wC,aj] at Z;cases Z;omega),hR⟩
  have qo:=zq qg;have qT:i=j:=wC
  subst qT;obtain⟨I,jX⟩:∃I,I=n-i:=⟨_,rfl⟩;obtain⟨U1,U2,c,Y6⟩:∃U1 U2,U=U1++U2/\a+U1.length=i:=⟨U.take (i-a),U.drop (i-a),(ZK _ _).symm,wu⟩;obtain⟨V1,V2,E,XL⟩:∃V1 V2,V=V1++V2/\m+V1.length=I:=⟨V.take (I-m),V.drop (I-m),(ZK _ _).symm,wu⟩;have Y:U.length=U1.length+U2.length:=by rw[c,zp]
  have ay:V.length=V1.length+V2.length:=by rw[E,zp]
  have hA:∀x,x∈U1->∀y,y∈V2->x.s<=y.s:=by
   rcases hL with h0|h0
   .rcases k7 with h7|h7
    .have:U1=[]:=kx wC;rw[this];simp
    .have:V2=[]:=kx wC;rw[this];simp
   .rcases List.eq_nil_or_concat U1 with zw|⟨A,x,W⟩
    .rw[zw];simp
    rw[List.concat_eq_append] at W;cases aG:V2 with
    |nil=>simp
    |cons y C=>
     have aJ:U1.length=A.length+1:=by rw[W];simp
     have ag:=h0 x y (by
      rw[L,c,W,show P++(A++[x]++U2++(V++R))=(P++A)++(x::(U2++(V++R))) from wE,jn wG,show i-1-(P++A).length=0 from wG];rfl) (by
      rw[L,E,aG,show P++(U++(V1++y::C++R))=(P++(U++V1))++(y::(C++R)) from wE,jn wG,show n-i-(P++(U++V1)).length=0 from wG];rfl)
     intro v J z Z;have r1:=(Vu (c▸hU)).1;have r2:=(Vu (E▸hV)).2.1;rw[W] at r1 J;rw[aG] at r2;exact zI (qfY r1 ag v J) (qeV r2 z Z)
  have hB:∀y,y∈V1->∀x,x∈U2->y.s<x.s:=by
   rcases hR with h0|h0
   .rcases k8 with h8|h8
    .have:U2=[]:=kx wC;rw[this];simp
    .have:V1=[]:=kx wC;rw[this];simp
   .rcases List.eq_nil_or_concat V1 with zw|⟨A,y,S⟩
    .rw[zw];simp
    rw[List.concat_eq_append] at S;cases aB:U2 with
    |nil=>simp
    |cons x C=>
     have aJ:V1.length=A.length+1:=by rw[S];simp
     have ag:=h0 x y (by
      rw[L,c,aB,show P++(U1++x::C++(V++R))=(P++U1)++(x::(C++(V++R))) from wE,jn wG,show i-(P++U1).length=0 from wG];rfl) (by
      rw[L,E,S,show P++(U++(A++[y]++V2++R))=(P++(U++A))++(y::(V2++R)) from wE,jn wG,show n-1-i-(P++(U++A)).length=0 from wG];rfl)
     intro v J z Z;have r1:=(Vu (E▸hV)).1;have r2:=(Vu (c▸hU)).2.1;rw[S] at r1 J;rw[aB] at r2;exact Nat.lt_of_le_of_lt (qfY r1 (qA _) v J) (vh ag (qeV r2 z Z))
  have am:qd T p=some (qX l):=hx.get hp wE;have Q:Ext [p] H T:=hx.mono fun i hi=>by simp at hi
  have vy:∀x,x∈P++(U1++(V1++(U2++(V2++R))))->closed H.length x.f=true:=fun x hx=>hc x (by
   rw[L,c,E];simp only[vj] at hx⊢;rcases hx with h|h|h|h|h|h
   .exact .inl h
   .exact .inr (.inl (.inl h))
   .exact .inr (.inr (.inl (.inl h)))
   .exact .inr (.inl (.inr h))
   .exact .inr (.inr (.inl (.inr h)))
   .exact .inr (.inr (.inr h)))
  have w6:=qz ((n:Int)-(i:Int)) (I:Int);rw[qbH];simp[-qd,-qbH];rw[qbH];simp[-qd,-qbH,p0,p1,p2,p3,p4,ai,aw,ac,O,au,qo];rw[qx8];refine Run.mono (R:=fun ex w H1=>ex=.normal/\qi w 0=some (.osl p (4*l.length) 0 l.length 4)/\qi w 1=some (.int .i64 a)/\qi w 3=some (.int .i64 b)/\qi w 4=some (.fn 75 [])/\qi w 18=some (.int .i64 d)/\qi w 20=some (.int .i64 i)/\qi w 24=some (.int .i64 I)/\Ext [p] H H1/\qd H1 p=some (qX (P++(U1++(V1++(U2++(V2++R))))))) ?_ ?_
  .by_cases M:i<m
   case neg=>
    have o:=zq M;simp[-qd,w6,o];have:U2=[]:=kx wC;exact⟨Q,by rw[am,L,c,E,this];simp⟩
   have o:=zn M;by_cases c2:m<I
   case neg=>
    have t:=zq c2;simp[-qd,w6,o,t];have:V1=[]:=kx wC;exact⟨Q,by rw[am,L,c,E,this];simp⟩
   have t:=zn c2;obtain⟨T1,c3,x3,g3⟩:=qym am (fun x hx=>jr Q.len _ (hc x hx)) hl (P++U1) U2 V1 (V2++R) (by rw[L,c,E];simp) i m I wG wC wC (fun h=>by rw[h] at Y;simp at Y;omega) (fun h=>by rw[h] at ay XL;simp at XL;omega) (.fn 75 []);simp[-qd,w6,o,t,c3];exact⟨Q.trans x3 (NewL.refl _ _),by rw[g3];simp⟩
  rintro _ w H1 ⟨rfl,q0,q1,q3,q4,B,ah,F,ae,Xj⟩;have aK:(P++(U1++(V1++(U2++(V2++R))))).length=l.length:=wG
  rw[qeU,qbH];refine Run.mono (R:=fun ex w H2=>ex=.normal/\qi w 0=some (.osl p (4*l.length) 0 l.length 4)/\qi w 3=some (.int .i64 b)/\qi w 4=some (.fn 75 [])/\qi w 18=some (.int .i64 d)/\qi w 24=some (.int .i64 I)/\Ext [p] H H2/\∃W1,StS (U1++V1) W1/\qd H2 p=some (qX (P++(W1++(U2++(V2++R)))))) ?_ ?_
  .by_cases M:a<i
   case neg=>
    have o:=zq M;simp[-qd,q0,q1,q3,q4,B,ah,F,o];have:U1=[]:=kx wC;subst this;exact⟨ae,V1,StS.self (Vu (E▸hV)).1,by simpa using Xj⟩
   have o:=zn M;by_cases c2:i<d
   case neg=>
    have t:=zq c2;simp[-qd,q0,q1,q3,q4,B,ah,F,o,t];have:V1=[]:=kx wC;subst this;exact⟨ae,U1,by simpa using StS.self (Vu (c▸hU)).1,by simpa using Xj⟩
   have t:=zn c2;obtain⟨⟨r,T1⟩,c3,z1,z2,W1,z3,z4⟩:=ih Xj (fun x hx=>jr ae.len _ (vy x hx)) wC P U1 V1 (U2++(V2++R)) rfl a i d ha Y6 wC (Vu (c▸hU)).1 (Vu (E▸hV)).1 (fun h=>by rw[h] at Y6;simp at Y6;omega) (fun h=>by rw[h] at XL;simp at XL;omega) wC;simp only at z1 z2 z4;subst z1;rw[aK] at c3;simp[-qd,q0,q1,q3,q4,B,ah,F,o,t,c3];exact⟨ae.trans z2 (NewL.refl _ _),W1,z3,by rw[z4]⟩
  rintro _ e2 H2 ⟨rfl,q0,q3,q4,B,F,aa,W1,aq,XM⟩;have aR:W1.length=U1.length+V1.length:=by rw[aq.len];simp
  have aN:(P++(W1++(U2++(V2++R)))).length=l.length:=wG
  have fin:∀(H3:qe)(W2:List Pl),Ext [p] H H3->StS (U2++V2) W2->qd H3 p=some (qX (P++(W1++(W2++R))))->qeC H p P U V R (.tup [],H3):=fun H3 W2 w e2 e3=>
   ⟨rfl,w,W1++W2,by rw[c,E];exact StS.split (c▸hU) (E▸hV) hA hB aq e2,by rw[e3];simp⟩
  rw[qeU];by_cases M:d<I
  case neg=>
   have o:=zq M;simp[-qd,q0,q3,q4,B,F,o];have:U2=[]:=kx wC;subst this;exact fin H2 V2 aa (StS.self (Vu (E▸hV)).2.1) (by simpa using XM)
  have o:=zn M;by_cases c2:I<b
  case neg=>
   have t:=zq c2;simp[-qd,q0,q3,q4,B,F,o,t];have:V2=[]:=kx wC;subst this;exact fin H2 U2 aa (by simpa using StS.self (Vu (c▸hU)).2.1) (by simpa using XM)
  have t:=zn c2
  obtain⟨⟨r,T1⟩,c3,z1,z2,W2,z3,z4⟩:=ih XM (fun x hx=>jr aa.len _ (by
   simp only[vj] at hx;rcases hx with h|h|h|h|h
   .exact vy x xG
   .rcases List.mem_append.1 (aq.mem h) with h|h
    .exact vy x xG
    .exact vy x xG
   .exact vy x xG
   .exact vy x xG
   .exact vy x xG)) wC (P++W1) U2 V2 R wE d I b wG wC wC (Vu (c▸hU)).2.1 (Vu (E▸hV)).2.1 (fun h=>by rw[h] at Y;simp at Y;omega) (fun h=>by rw[h] at ay;simp at ay;omega) wC
  simp only at z1 z2 z4;subst z1;rw[aN] at c3;simp[-qd,q0,q3,q4,B,F,o,t,c3];exact fin T1 W2 (aa.trans z2 (NewL.refl _ _)) z3 (by rw[z4];simp)
end Go.Ev.S
namespace Go.Ev.S
open Go Go.Proofs Go.Ev
theorem StS.trans_app{u v A B:List Pl}(h:StS u A)(b:StS v B){W:List Pl}(a:StS (A++B) W):StS (u++v) W:=
 ⟨a.rise,by rw[a.len,zp,zp,h.len,b.len],fun k=>by rw[a.same,List.filter_append,List.filter_append,h.same,b.same]⟩
def qiM(H:qe)(p:Nat)(l:List Pl)(q:D×qe):Prop:=q.1=.tup []/\Ext [p] H q.2/\∃W,StS l W/\qd q.2 p=some (qX W)
theorem qxc[MaxL][TxtC]{H:qe}{p:Nat}{l:List Pl}(B:qd H p=some (qX l))(hc:∀x,x∈l->closed H.length x.f=true)(S:l.length<40):
  ∃q,call cx 125 [.osl p (4*l.length) 0 l.length 4,.int .i64 l.length,.fn 75 []] H=some q/\qiM H p l q:=by
 refine vz (X:=cx) (f:=125) (qiM H p l) Tryz.func125 rfl ⟨rfl,rfl⟩ ?_;have V:IntKind.i64.wrap (20+20)=40:=rfl;have R:IntKind.i64.wrap (2*20)=40:=rfl;have w3:IntKind.i64.wrap (20*2)=40:=rfl;have Q:IntKind.i64.wrap (0+20)=20:=rfl;simp[-qd,Tryz.f125];refine Vd ?_;by_cases o:20<=l.length
 case neg=>
  have a:¬(20:Int)<=(l.length:Int):=wC
  have k:¬(20:Int)<(l.length:Int):=wC
  obtain⟨T,M,d,t,b,u⟩:=qkF B hc wC 0 l.length wC (qA _);replace d:call cx 182 [.osl p (4*l.length) 0 l.length 4,.int .i64 0,.int .i64 l.length,.fn 75 []] H=some (.tup [],T):=d;simp[-qd,a,d];refine Vd ?_;simp[-qd,k];exact⟨rfl,t,M,xQ,by simpa using u⟩
 have a:(20:Int)<=(l.length:Int):=wC
 have c:¬(40:Int)<=(l.length:Int):=wC
 have n:¬(40:Int)<(l.length:Int):=wC
 obtain⟨T,M,d,t,b,u⟩:=qkF B hc wC 0 20 wC o;replace d:call cx 182 [.osl p (4*l.length) 0 l.length 4,.int .i64 0,.int .i64 20,.fn 75 []] H=some (.tup [],T):=d;have y:M.length=20:=by rw[b.len];simp;omega
 simp only[Nat.sub_zero,List.drop_zero,List.take_zero,QY] at b u;have P:(M++l.drop 20).length=l.length:=wG
 have j:∀x,x∈M++l.drop 20->closed T.length x.f=true:=fun x hx=>jr t.len _ (by
  rcases List.mem_append.1 hx with h|h
  .exact hc x (QZ (b.mem h))
  .exact hc x (Z0 h))
 obtain⟨T2,s,w,F,e,A⟩:=qkF u j wC 20 l.length o wC;rw[P] at w;replace w:call cx 182 [.osl p (4*l.length) 0 l.length 4,.int .i64 20,.int .i64 l.length,.fn 75 []] T=some (.tup [],T2):=w;have J:(M++l.drop 20).drop 20=l.drop 20:=by rw[<-y];simp
 have I:(M++l.drop 20).take 20=M:=by rw[<-y];simp
 have O:(M++l.drop 20).drop l.length=[]:=List.drop_of_length_le wC;rw[J] at e;rw[I,O,Jd] at A;rw[qJ wE] at e;have i:s.length=l.length-20:=by rw[e.len];simp
 have g:Ext [p] H T2:=t.trans F (NewL.refl _ _);simp[-qd,a,d];refine Vd ?_;simp[-qd,c,w];refine Vd ?_;by_cases U:20<l.length
 case neg=>
  have v:¬(20:Int)<(l.length:Int):=wC
  simp[-qd,v];have:s=[]:=kx wC;subst this;refine⟨rfl,g,M,?_,by simpa using A⟩;rw[qJ wC] at b;exact b
 have v:(20:Int)<(l.length:Int):=wC
 have m:∀x,x∈M++s->closed T2.length x.f=true:=fun x hx=>jr F.len _ (j x (by
  rcases List.mem_append.1 hx with h|h
  .simp[h]
  .have:=e.mem h;exact List.mem_append_right _ this))
 have N:(M++s).length=l.length:=wG
 obtain⟨⟨r,L⟩,z,G,C,W,K,E⟩:=qwF l.length A m wC [] M s [] wE 0 20 l.length rfl wC wC b.rise e.rise (fun h=>by rw[h] at y;simp at y) (fun h=>by rw[h] at i;simp at i;omega) wC;simp only at G C E;subst G;rw[N] at z;replace z:call cx 183 [.osl p (4*l.length) 0 l.length 4,.int .i64 0,.int .i64 20,.int .i64 l.length,.fn 75 []] T2=some (.tup [],L):=z;simp[-qd,v];refine Vd ?_;simp[-qd,c,v,z];refine Vd ?_;simp[-qd,n];refine⟨rfl,g.trans C (NewL.refl _ _),W,?_,by simpa using E⟩;have:=StS.trans_app b e K;rw[ZK] at this;exact this
theorem qxj[MaxL][TxtC]{H:qe}{p:Nat}{l:List Pl}(b:qd H p=some (qX l))(hc:∀x,x∈l->closed H.length x.f=true)(e:l.length<40):
  ∃q,call cx 74 [.osl p (4*l.length) 0 l.length 4,.fn 75 []] H=some q/\qiM H p l q:=by
 obtain⟨⟨r,T⟩,d,a,c⟩:=qxc b hc e;simp only at a;subst a;refine vz (X:=cx) (f:=74) (qiM H p l) Tryz.func74 rfl ⟨rfl,rfl⟩ ?_;simp[-qd,Tryz.f74,d];exact⟨rfl,c⟩
theorem qxi[MaxL][TxtC](H:qe):∃T,call cx 74 [.vsl true [] 0,.fn 75 []] H=some (.tup [],T)/\Ext [] H T:=by
 have b:call cx 182 [.vsl true [] 0,.int .i64 0,.int .i64 0,.fn 75 []] H=some (.tup [],H):=by
  refine jy Tryz.func182 rfl ⟨rfl,rfl⟩ ?_;have w:IntKind.i64.wrap (0+1)=1:=rfl;simp[-qd,Tryz.f182];refine Vd ?_;simp[-qd]
 have a:call cx 125 [.vsl true [] 0,.int .i64 0,.fn 75 []] H=some (.tup [],H):=by
  refine jy Tryz.func125 rfl ⟨rfl,rfl⟩ ?_;simp[-qd,Tryz.f125];refine Vd ?_;simp[-qd,b];refine Vd ?_;simp[-qd]
 refine⟨H,jy Tryz.func74 rfl ⟨rfl,rfl⟩ ?_,Ext.refl _ _⟩;simp[-qd,Tryz.f74,a]
theorem qux[MaxL][TxtC](H:qe)(x y:Pl)(hx:closed H.length x.f=true)(i:closed H.length y.f=true):∃T,call cx 78 [.agg (jl x),.agg (jl y)] H=some (.bool (decide (x.s=y.s)),T)/\Ext [] H T:=by
 obtain⟨g,a⟩:=ql (qr H (jl x));obtain⟨d,e2⟩:=ql (qr g (jl y));have e:=zJ a;have c:=zJ e2;have j:=js a;have l:qd d H.length=some (jl x):=c.get j wE;have k:=js e2;have b:closed g.length y.f=true:=jr e.len _ i;refine⟨d,jy Tryz.func78 rfl ⟨rfl,rfl⟩ ?_,e.trans c (NewL.refl _ _)⟩;simp only[jl] at *;simp[-qd,-qr,Tryz.f78,a,e2,l,k,hx,b];by_cases h:x.s=y.s<;>simp[h]<;>omega
def RowF(H:qe)(v:D)(l:List Pl)(L:List Nat):Prop:=(v=.vsl true [] 0/\l=[]/\L=[])\/∃p st cs,v=.osl p st 0 l.length 4/\qd H p=some cs/\cs.length=st/\4*l.length<=st/\(∀j x,l[j]?=some x->(cs.drop (j*4)).take 4=jl x)/\L=[p]
def qvQ(H:qe)(p:Nat)(l:List Pl)(q:D×qe):Prop:=Ext [p] H q.2/\RowF q.2 q.1 (dd l) [p]
theorem qnr{H:qe}{p:Nat}{l:List Pl}(h:qd H p=some (qX l)):RowF H (.osl p (4*l.length) 0 l.length 4) l [p]:=
 .inr ⟨p,_,_,rfl,h,Zz l,qA _,fun _ _=>qb2,rfl⟩
theorem qhi{l:List Pl}{k:Nat}{x:Pl}(h:l[k]?=some x):l.take (k+1)=l.take k++[x]:=by
 obtain⟨a,rfl⟩:=List.getElem?_eq_some_iff.1 h;exact Vs a
theorem quJ{l:List Pl}{k:Nat}{x y:Pl}(hx:l[k]?=some x)(a:l[k+1]?=some y):dd (l.take (k+2))=dd (l.take (k+1))++(if y.s=x.s then[] else[y]):=by
 rw[qhi (k:=k+1) a];exact q4R (by rw[qhi hx];simp)
theorem q5e[MaxL][TxtC]{H:qe}{p:Nat}{l:List Pl}(hp:qd H p=some (qX l))(hc:∀x,x∈l->closed H.length x.f=true)(hl:l.length<=1000000)(L:l≠[]):
  ∃q,call cx 77 [.osl p (4*l.length) 0 l.length 4,.fn 78 []] H=some q/\qvQ H p l q:=by
 refine vz (X:=cx) (f:=77) (qvQ H p l) Tryz.func77 rfl ⟨rfl,rfl⟩ ?_;have Jt:=List.length_pos_iff.2 L;have qE:(qX l).length=4*l.length:=Zz l;by_cases h2:l.length<2
 .have Z:(l.length:Int)<2:=by omega
  simp[-qd,Tryz.f77,Z]
  match l,Jt,h2 with
  |[x],_,_=>exact⟨Ext.refl _ _,qnr hp⟩
 have Z:¬(l.length:Int)<2:=wC
 simp[-qd,Tryz.f77,Z];have mem:∀{j:Nat}{x:Pl},l[j]?=some x->closed H.length x.f=true:=fun h=>hc _ (jH h);refine Run.loopThen (fun(k:Nat) e T=>1<=k/\k<=l.length/\qi e 0=some (.osl p (4*l.length) 0 l.length 4)/\qi e 1=some (.fn 78 [])/\qi e 5=some (.int .i64 k)/\Ext [] H T/\dd (l.take k)=l.take k) (fun k=>l.length-k) 1 ?_ ?_
 .refine⟨qA _,wC,wE,wE,wE,Ext.refl _ _,?_⟩;cases l with
  |nil=>exact absurd rfl L
  |cons x l=>simp[dd,XY]
 rintro k e T ⟨k1,k2,p0,p1,p5,hx,O⟩;by_cases qg:k<l.length
 case neg=>
  have U:=zq qg;simp[-qd,p0,p1,p5,U];have:k=l.length:=wC
  rw[this,List.take_length] at O;exact⟨hx.mono fun i hi=>wV,by rw[O];exact qnr (hx.get hp wE)⟩
 have U:=zn qg;obtain⟨j,w⟩:∃j,k=j+1:=⟨k-1,wC⟩;have wj:=qz ((k:Int)-1) (j:Int);have wk:=qz ((k:Int)+1) ((k+1:Nat):Int);obtain⟨x,Xb,ex⟩:=qcL (l:=l) (i:=j) wC;obtain⟨y,B,ey⟩:=qcL (l:=l) (i:=k) wC;have hg:=hx.get hp wE;obtain⟨T1,I,Y⟩:=qux T y x (jr hx.len _ (mem B)) (jr hx.len _ (mem Xb));simp only[jl] at I ex ey;have b1:(j:Int)<(l.length:Int):=wC
 have b3:j*4+4<=4*l.length:=wC
 have b4:k*4+4<=4*l.length:=wC
 have b5:4<=4*l.length-j*4:=wC
 have b6:4<=4*l.length-k*4:=wC
 have n:=quJ (l:=l) (k:=j) Xb (w▸B);by_cases Q:y.s=x.s
 case neg=>
  rw[decide_eq_false Q] at I;simp[-qd,p0,p1,p5,U,wj,wk,hg,ex,ey,qE,b1,b5,b6,I];refine⟨k+1,wC,wC,wC,wC,hx.trans Y (NewL.refl _ _),?_⟩;rw[if_neg Q,<-w,O,<-qhi B] at n;rw[w] at n⊢;exact n
 have g1:=Y.get hg wE;have ae:=hx.trans Y (NewL.refl _ _);have F:Ext [p] H T1:=ae.mono fun i hi=>by simp at hi
 rw[if_pos Q,Jd,<-w,O] at n;have kb:(k:Int)<=(l.length:Int):=wC
 have aj:k<=l.length:=wC
 obtain⟨m,hm⟩:∃m,m=l.length-k:=⟨_,rfl⟩;rw[decide_eq_true Q] at I;simp[-qd,p0,p1,p5,U,wj,hg,ex,ey,qE,b1,b5,b6,I,kb,qg,<-hm]
 refine Run.loopThen (fun(q:Nat×Nat) e T=>1<=q.2/\q.2<=m/\q.1+1<=k+q.2/\qi e 0=some (.osl p (4*l.length) 0 l.length 4)/\qi e 1=some (.fn 78 [])/\qi e 5=some (.int .i64 q.1)/\qi e 6=some (.osl p (4*l.length) (k*4) m 4)/\qi e 7=some (.int .i64 q.2)/\Ext [p] H T/\
  ∃W,qd T p=some (qX W)/\W.length=l.length/\W.take q.1=dd (l.take (k+q.2))/\(∀j,k+q.2<=j+1->W[j]?=l[j]?)/\∀x,x∈W->x∈l) (fun q=>m-q.2) (k,1) ?_ ?_
 .exact⟨qA _,wJ,qA _,wE,wE,wE,wE,wE,F,l,g1,rfl,by simp only;rw[show k+1=j+2 from wC];exact n.symm,fun _ _=>rfl,fun _ h=>h⟩
 rintro⟨c,i⟩ e T ⟨i1,i2,i3,q0,q1,V,q6,P,hx,W,o,ZE,d,r,g⟩;simp only at i1 i2 i3 V P d r;have b:(qX W).length=4*l.length:=by rw[Zz,ZE]
 by_cases hi:i<m
 case neg=>
  have R:=zq hi;have aq:i=m:=wC
  have ag:l.take (k+i)=l:=qJ wC;rw[ag] at d;have cb:(c:Int)<=(l.length:Int):=wC
  have ac:c<l.length:=wC
  have ai:c<=l.length:=wC
  have C:(dd l).length=c:=by rw[<-d,jj];omega
  simp[-qd,-qn,q0,q1,V,q6,P,R,o,b,cb,ac,show c*4+(l.length-c)*4<=4*l.length from wC,show 0<l.length-c from wC];have G:(qX W).take (c*4)=qX (dd l):=by rw[q4L,d]
  have am:(qX (dd l)).length=c*4:=by rw[Zz,C];omega
  refine⟨hx.trans (Ext.set T p _) (NewL.refl _ _),.inr ⟨p,_,_,by rw[C],zk (qx o),?_,by rw[C];omega,fun j z w=>?_,rfl⟩⟩
  .simp[b];omega
  .have ak:=(List.getElem?_eq_some_iff.1 w).1;simp only[G];rw[List.drop_append_of_le_length wC,List.take_append_of_le_length wv];exact qb2 w
 have R:=zn hi;obtain⟨h,hh⟩:∃h,i=h+1:=⟨i-1,wC⟩;have wi:=qz ((i:Int)-1) (h:Int);have M:=qz ((i:Int)+1) ((i+1:Nat):Int);have wc:=qz ((c:Int)+1) ((c+1:Nat):Int);obtain⟨u,hu,N⟩:=qcL (l:=W) (i:=k+h) wC;obtain⟨v,hv,S⟩:=qcL (l:=W) (i:=k+i) wC;rw[show(k+h)*4=k*4+h*4 from wC] at N;rw[show(k+i)*4=k*4+i*4 from wC] at S;have aa:=jr hx.len _ (hc u (g u (jH hu)));have K:=jr hx.len _ (hc v (g v (jH hv)));obtain⟨T2,J,x2⟩:=qux T v u K aa;simp only[jl] at J N S;have d1:(h:Int)<(m:Int):=wC
 have d3:k*4+h*4+4<=4*l.length:=wC
 have d4:k*4+i*4+4<=4*l.length:=wC
 have d5:4<=4*l.length-(k*4+h*4):=wC
 have d6:4<=4*l.length-(k*4+i*4):=wC
 have a:=quJ (l:=l) (k:=k+h) (x:=u) (y:=v) (by rw[<-r _ wC];exact hu) (by rw[<-r _ wC,<-hv];congr 1;omega);rw[show k+h+2=k+(i+1) from wC,show k+h+1=k+i from wC] at a;have A:=hx.trans (x2.mono fun i hi=>wV) (NewL.refl [p] _);have g2:=x2.get o wE;by_cases t:v.s=u.s
 .rw[decide_eq_true t] at J;rw[if_pos t,Jd] at a;simp[-qd,-qn,q0,q1,V,q6,P,R,o,b,wi,M,N,S,d1,d5,d6,J];exact⟨c,i+1,wC,wC,wC,wC,rfl,wC,A,W,g2,ZE,by rw[a];exact d,fun j w=>r j wC,g⟩
 .rw[decide_eq_false t] at J;rw[if_neg t] at a;have s1:=qe3 (l:=W) (j:=c) wC v;simp only[jl] at s1;obtain⟨T3,t3⟩:=ql (qn T2 p (qX (W.set c v)));have g3:=kc t3 g2;have x3:=vZ t3;have cc:(c:Int)<(l.length:Int):=by omega
  have ah:c*4+4<=4*l.length:=wC
  have ao:4<=4*l.length-c*4:=wC
  have E:=jr x2.len _ K;simp[-qd,-qn,q0,q1,V,q6,P,R,o,b,wi,M,wc,N,S,d1,d5,d6,J,g2,cc,ah,s1,t3,E];refine⟨c+1,i+1,wC,wC,wC,wC,wC,wC,A.trans x3 (NewL.refl _ _),W.set c v,g3,by rw[vI];exact ZE,?_,fun j w=>?_,fun z hz=>?_⟩
  .rw[a,qhi (x:=v) (by rw[List.getElem?_set_self wC]),<-d];congr 1;rw[List.take_set_of_le (qA _)]
  .rw[List.getElem?_set_ne wC];exact r j wC
  .rcases qcH hz with h|rfl
   .exact g z h
   .exact g z (jH hv)
theorem qve[MaxL][TxtC](H:qe)(x:Pl)(d:Nat)(hx:closed H.length x.f=true):∃T,call cx 129 [.agg (jl x),.int .u64 (d:Nat)] H=some (.int .i64 (Qs x.s d),T)/\Ext [] H T:=by
 have hc:=ql5 x.s d;obtain⟨b,a⟩:=ql (qr H (jl x));have e:=zJ a;have c:=js a;refine⟨b,jy Tryz.func129 rfl ⟨rfl,rfl⟩ ?_,e⟩;simp only[jl] at *;simp[-qd,-qr,Tryz.f129,hc,a,c,hx]
theorem qvg(a b:Nat):Qs a b=0↔a=b:=by
 unfold Qs;by_cases h:a<b
 .simp[h];omega
 .by_cases c:b<a
  .simp[h,c];omega
  .simp[h,c];omega
def BsQ(H:qe)(l:List Pl)(d:Nat)(q:D×qe):Prop:=Ext [] H q.2/\∃i f,q.1=.tup [.int .i64 (i:Nat),.bool f]/\i<=l.length/\(∀j x,l[j]?=some x->(j<i↔x.s<d))/\(f=true↔∃x,l[i]?=some x/\x.s=d)
theorem q6i[MaxL][TxtC]{H:qe}{v:D}{l:List Pl}{L:List Nat}(hr:RowF H v l L)(hc:∀x,x∈l->closed H.length x.f=true)(hl:l.length<=1000000)(hs:l.Pairwise (fun a b=>a.s<b.s))(d:Nat):
  ∃q,call cx 128 [v,.int .u64 (d:Nat),.fn 129 []] H=some q/\BsQ H l d q:=by
 refine vz (X:=cx) (f:=128) (BsQ H l d) Tryz.func128 rfl ⟨rfl,rfl⟩ ?_;rcases hr with⟨rfl,rfl,rfl⟩|⟨p,st,cs,rfl,hg,u,O,qS,rfl⟩
 .simp[-qd,Tryz.f128];refine Vd ?_;simp[-qd];exact⟨Ext.refl _ _,0,false,rfl,wE,wE,wE⟩
 have m:∀{i j:Nat}{x y:Pl},l[i]?=some x->l[j]?=some y->i<j->x.s<y.s:=fun{i j x y} hi Y W=>by
  obtain⟨V,rfl⟩:=List.getElem?_eq_some_iff.1 hi;obtain⟨B,rfl⟩:=List.getElem?_eq_some_iff.1 Y;exact List.pairwise_iff_getElem.1 hs i j V B W
 simp[-qd,Tryz.f128]
 refine Run.loopThen (fun(q:Nat×Nat) e T=>q.1<=q.2/\q.2<=l.length/\qi e 0=some (.osl p st 0 l.length 4)/\qi e 1=some (.int .u64 (d:Nat))/\qi e 2=some (.fn 129 [])/\qi e 8=some (.int .i64 l.length)/\qi e 9=some (.int .i64 q.1)/\qi e 10=some (.int .i64 q.2)/\Ext [] H T/\
  (∀j x,l[j]?=some x->j<q.1->x.s<d)/\(∀j x,l[j]?=some x->q.2<=j->d<=x.s)) (fun q=>q.2-q.1) (0,l.length) ?_ ?_
 .exact⟨vg _,qA _,wE,wE,wE,wE,wE,wE,Ext.refl _ _,fun _ _ _ h=>absurd h (Nat.not_lt_zero _),fun j x Y h=>absurd (List.getElem?_eq_some_iff.1 Y).1 (by simp only at h;omega)⟩
 rintro⟨i,j⟩ e T ⟨V,B,Q,N,P,K,G,g,hx,Z,Q0⟩;simp only at V B G g Z Q0;have r:=hx.get hg wE;by_cases qg:i<j
 .have I:=zn qg;obtain⟨w1,U⟩:=qgx (i:=i) (j:=j) wC;obtain⟨h,hh⟩:∃h,h=(i+j)/2:=⟨_,rfl⟩;rw[<-hh] at U;have wh:=qz ((h:Int)+1) ((h+1:Nat):Int);obtain⟨x,n⟩:∃x,l[h]?=some x:=⟨_,qN wC⟩;have C:=qS h x n;obtain⟨T1,w,J⟩:=qve T x d (jr hx.len _ (hc x (jH n)));simp only[jl] at w C;have b1:(h:Int)<(l.length:Int):=by omega
  have b3:h*4+4<=st:=wC
  have M:4<=st-h*4:=wC
  by_cases S:x.s<d
  .have A:Qs x.s d<0:=(by rw[qb4];exact S);simp[-qd,Q,N,P,K,G,g,I,w1,U,wh,r,u,C,b1,M,w,A];refine⟨h+1,j,wC,wC,B,wC,rfl,hx.trans J (NewL.refl _ _),fun k z o E=>?_,Q0⟩;rcases Nat.lt_or_eq_of_le (Nat.le_of_lt_succ E) with F|F
   .exact Nat.lt_trans (m o n F) S
   .subst F;rw[n] at o;cases o;exact S
  .have A:¬Qs x.s d<0:=(by rw[qb4];exact S);simp[-qd,Q,N,P,K,G,g,I,w1,U,r,u,C,b1,M,w,A];refine⟨i,h,wC,wC,wC,rfl,rfl,hx.trans J (NewL.refl _ _),Z,fun k z o E=>?_⟩;rcases Nat.lt_or_eq_of_le E with F|F
   .have:=m n o F;omega
   .subst F;rw[n] at o;cases o;omega
 have I:=zq qg;have W:i=j:=wC
 subst W;have c:∀j x,l[j]?=some x->(j<i↔x.s<d):=fun k z o=>⟨Z k z o,fun hz=>Nat.lt_of_not_le fun O=>by have:=Q0 k z o O;omega⟩;by_cases ve:i<l.length
 case neg=>
  have t:=zq ve;simp[-qd,Q,N,P,K,G,g,I,t];exact⟨hx,i,false,rfl,B,c,by simp[List.getElem?_eq_none (show l.length<=i from wC)]⟩
 have t:=zn ve;obtain⟨x,n⟩:∃x,l[i]?=some x:=⟨_,qN ve⟩;have C:=qS i x n;obtain⟨T1,w,J⟩:=qve T x d (jr hx.len _ (hc x (jH n)));simp only[jl] at w C;have b3:i*4+4<=st:=wC
 have M:4<=st-i*4:=wC
 by_cases R:x.s=d
 .have A:Qs x.s d=0:=(qvg _ _).2 R;simp[-qd,Q,N,P,K,G,g,I,t,r,u,C,M,w,A];exact⟨hx.trans J (NewL.refl _ _),i,true,rfl,B,c,by simp[n,R]⟩
 .have A:¬Qs x.s d=0:=fun h=>R ((qvg _ _).1 h);have XJ:(Qs x.s d==0)=false:=by simpa using A
  simp[-qd,Q,N,P,K,G,g,I,t,r,u,C,M,w,XJ];exact⟨hx.trans J (NewL.refl _ _),i,false,rfl,B,c,by simp[n,R]⟩
theorem qia(l:List UInt8)(h:l.length=16):∃g n k j m o i q r p e c a d f b:UInt8,l=[g,n,k,j,m,o,i,q,r,p,e,c,a,d,f,b]:=by
 match l,h with
 |[g,n,k,j,m,o,i,q,r,p,e,c,a,d,f,b],_=>exact⟨g,n,k,j,m,o,i,q,r,p,e,c,a,d,f,b,rfl⟩
def VP(id:List UInt8)(v:D)(a:Nat):List D:=qf id++[v,.int .u64 (a:Nat)]
def KP(id:List UInt8)(e:List D)(b:Bool)(fr a:Nat):List D:=qf id++(e++[.bool b,.int .u64 (fr:Nat),.int .u64 (a:Nat)])
def qgh:List D:=[.int .u64 0,.int .u64 0,.nilp,.int .i64 0]
def NxQ(H:qe)(id:List UInt8)(l:List Pl)(b d:Nat)(q:D×qe):Prop:=Ext [] H q.2/\∃e c a,q.1=.tup [.agg (KP id e c (if d<a then d+1 else 0) (if d<a then a else 0)),.bool (c||decide (d<a))]/\
 ((c=true/\∃k x,l[k]?=some x/\(∀(j:Nat)(z:Pl),l[j]?=some z->(j<k↔z.s<=d))/\e=jl x/\a+1=x.s)\/(c=false/\(∀z:Pl,z∈l->z.s<=d)/\e=qgh/\a=b))
theorem qft{H T K:qe}{a b:Nat}(h:Ext [] H T)(c:Ext [a,b] T K)(e:H.length<=a)(d:H.length<=b):Ext [] H K:=
 ⟨zI h.len c.len,fun i hi _=>by rw[c.out i (vh hi h.len) wG,h.out i hi wE]⟩
theorem qzI[MaxL][TxtC]{H:qe}{v:D}{l:List Pl}{L:List Nat}(hr:RowF H v l L)(hv:closed H.length v=true)(hc:∀x,x∈l->closed H.length x.f=true)(hl:l.length<=1000000)(hs:l.Pairwise (fun a b=>a.s<b.s))(hb:∀x,x∈l->x.s<18446744073709551616)(id:List UInt8)(ZV:id.length=16)(w d:Nat)(ht:w<18446744073709551616)(hd:d<18446744073709551616):
  ∃q,call cx 81 [.agg (VP id v w),.int .u64 (d:Nat)] H=some q/\NxQ H id l w d q:=by
 refine vz (X:=cx) (f:=81) (NxQ H id l w d) Tryz.func81 rfl ⟨rfl,rfl⟩ ?_;obtain⟨E,J,K,O,M,G,F,N,P,I,n,o,m,u,g,e,V⟩:=qia id ZV;obtain⟨S,hS⟩:∃S,S=VP id v w:=⟨_,rfl⟩;obtain⟨A,e1⟩:=ql (qr H S);have x1:=zJ e1;have aG:S=[.int .u8 E.toNat,.int .u8 J.toNat,.int .u8 K.toNat,.int .u8 O.toNat,.int .u8 M.toNat,.int .u8 G.toNat,.int .u8 F.toNat,.int .u8 N.toNat,.int .u8 P.toNat,.int .u8 I.toNat,.int .u8 n.toNat,.int .u8 o.toNat,.int .u8 m.toNat,.int .u8 u.toNat,.int .u8 g.toNat,.int .u8 e.toNat,v,.int .u64 (w:Nat)]:=by rw[hS,V];rfl
 have g1:=js e1;rw[<-hS];rw[aG] at e1 g1⊢;obtain⟨c,e2⟩:=ql (qr A (qM [.int .u64 0,.int .u64 0,.nilp,.int .i64 0,.bool false,.int .u64 0,.int .u64 0]));have x2:=zJ e2;have ah:=x2.get g1 wE;have g2:=js e2;obtain⟨H3,e3⟩:=ql (qr c (qM [.int .u64 0,.int .u64 0,.nilp,.int .i64 0,.bool false,.int .u64 0,.int .u64 0]));have x3:=zJ e3;have g3:=js e3;obtain⟨H4,e4⟩:=ql (qn H3 c.length [.int .u8 E.toNat,.int .u8 J.toNat,.int .u8 K.toNat,.int .u8 O.toNat,.int .u8 M.toNat,.int .u8 G.toNat,.int .u8 F.toNat,.int .u8 N.toNat,.int .u8 P.toNat,.int .u8 I.toNat,.int .u8 n.toNat,.int .u8 o.toNat,.int .u8 m.toNat,.int .u8 u.toNat,.int .u8 g.toNat,.int .u8 e.toNat,.int .u64 0,.int .u64 0,.nilp,.int .i64 0,.bool false,.int .u64 0,.int .u64 0]);have x4:=vZ e4;have g4:=kc e4 g3;have l1:H.length<A.length:=by have:=qx g1;exact this
 have l2:A.length<c.length:=qx g2
 have aA:Ext [] A H4:=⟨by have:=x2.len;have:=x3.len;have:=x4.len;omega,fun i hi _=>by
  rw[x4.out i (by have:=x2.len;have:=x3.len;omega) wG,x3.out i (by have:=x2.len;omega) wE,x2.out i hi wE]⟩
 have ae:=aA.get g1 wE;have aH:qd H4 A.length=some (qM [.int .u64 0,.int .u64 0,.nilp,.int .i64 0,.bool false,.int .u64 0,.int .u64 0]):=x4.get (x3.get g2 wE) wG
 have aC:RowF H4 v l L:=by
  rcases hr with hr|⟨p,st,cs,a1,a2,a3,a4,a5,a6⟩
  .exact .inl hr
  .exact .inr ⟨p,st,cs,a1,aA.get (x1.get a2 wE) wE,a3,a4,a5,a6⟩
 have az:Ext [] H H4:=x1.trans aA (NewL.refl _ _);obtain⟨⟨r,T⟩,YB,xT,i,f,rfl,hi,ax,hf⟩:=q6i aC (fun x hx=>jr az.len _ (hc x hx)) hl hs d;simp only at xT;have XQ:=xT.get g4 wE;have Y:=xT.get ae wE;have aa:=xT.get aH wE;have aS:closed H4.length v=true:=jr az.len _ hv;obtain⟨k,hk⟩:∃k,k=if f=true then i+1 else i:=⟨_,rfl⟩
 have aq:∀{i j:Nat}{x y:Pl},l[i]?=some x->l[j]?=some y->i<j->x.s<y.s:=fun{i j x y} hi hj qT=>by
  obtain⟨h1,rfl⟩:=List.getElem?_eq_some_iff.1 hi;obtain⟨h2,rfl⟩:=List.getElem?_eq_some_iff.1 hj;exact List.pairwise_iff_getElem.1 hs i j h1 h2 qT
 have ac:∀(j:Nat)(z:Pl),l[j]?=some z->(j<k↔z.s<=d):=fun j z hj=>by
  have h1:=ax j z hj;cases f with
  |false=>
   have h2:¬∃x,l[i]?=some x/\x.s=d:=fun h=>by simpa using hf.2 h
   simp only[kZ,if_false] at hk;rw[hk];refine⟨fun h=>qfF (h1.1 h),fun h=>?_⟩;rcases Nat.lt_or_eq_of_le h with h|h
   .exact h1.2 h
   .rcases Nat.lt_trichotomy j i with h'|h'|h'
    .exact h'
    .exact absurd ⟨z,h'▸hj,h⟩ h2
    .have km:i<l.length:=Nat.lt_trans h' (List.getElem?_eq_some_iff.1 hj).1;have hx:=qN km;have:=aq hx hj h';have:=(ax i _ hx).2 wC;omega
  |true=>
   obtain⟨x,aF,aQ⟩:=hf.1 rfl;simp only[if_true] at hk;rw[hk];rcases Nat.lt_trichotomy j i with h'|h'|h'
   .have:=h1.1 h';omega
   .subst h';rw[aF] at hj;cases hj;omega
   .have:=aq aF hj h';omega
 have aT:A.length<T.length:=qx aa;have aR:c.length<T.length:=qx XQ;have ag:Ext [] H T:=az.trans xT (NewL.refl _ _);have aL:A.length≠c.length:=wC
 have aj:H.length<=A.length:=x1.len;have ai:H.length<=c.length:=zI x1.len x2.len;rcases aC with⟨rfl,rfl,rfl⟩|⟨p,st,cs,rfl,aK,aD,aO,qS,rfl⟩
 .have Ju:i=0:=by simpa using hi
  have au:f=false:=by cases f with|false=>rfl|true=>obtain⟨x,hx,-⟩:=hf.1 rfl;simp at hx
  subst Ju au;by_cases B:d<w
  .have U:=zn B;have wd:=zg ((d:Int)+1) ((d:Int)+1);have av:(0:Int)<(d:Int)+1:=wC;obtain⟨C,Q⟩:=ql (qn T c.length [.int .u8 E.toNat,.int .u8 J.toNat,.int .u8 K.toNat,.int .u8 O.toNat,.int .u8 M.toNat,.int .u8 G.toNat,.int .u8 F.toNat,.int .u8 N.toNat,.int .u8 P.toNat,.int .u8 I.toNat,.int .u8 n.toNat,.int .u8 o.toNat,.int .u8 m.toNat,.int .u8 u.toNat,.int .u8 g.toNat,.int .u8 e.toNat,.int .u64 0,.int .u64 0,.nilp,.int .i64 0,.bool false,.int .u64 ((d:Int)+1),.int .u64 0]);have k1:qd C c.length=some [.int .u8 E.toNat,.int .u8 J.toNat,.int .u8 K.toNat,.int .u8 O.toNat,.int .u8 M.toNat,.int .u8 G.toNat,.int .u8 F.toNat,.int .u8 N.toNat,.int .u8 P.toNat,.int .u8 I.toNat,.int .u8 n.toNat,.int .u8 o.toNat,.int .u8 m.toNat,.int .u8 u.toNat,.int .u8 g.toNat,.int .u8 e.toNat,.int .u64 0,.int .u64 0,.nilp,.int .i64 0,.bool false,.int .u64 ((d:Int)+1),.int .u64 0]:=yM;have j1:=(Q▸Ext.set T c.length _:Ext [c.length] T C).get aa wG;have y1:Ext [c.length,A.length] T C:=(Q▸Ext.set T c.length _:Ext [c.length] T C).mono wE;obtain⟨T2,Z⟩:=ql (qn C c.length [.int .u8 E.toNat,.int .u8 J.toNat,.int .u8 K.toNat,.int .u8 O.toNat,.int .u8 M.toNat,.int .u8 G.toNat,.int .u8 F.toNat,.int .u8 N.toNat,.int .u8 P.toNat,.int .u8 I.toNat,.int .u8 n.toNat,.int .u8 o.toNat,.int .u8 m.toNat,.int .u8 u.toNat,.int .u8 g.toNat,.int .u8 e.toNat,.int .u64 0,.int .u64 0,.nilp,.int .i64 0,.bool false,.int .u64 ((d:Int)+1),.int .u64 w]);have k2:qd T2 c.length=some [.int .u8 E.toNat,.int .u8 J.toNat,.int .u8 K.toNat,.int .u8 O.toNat,.int .u8 M.toNat,.int .u8 G.toNat,.int .u8 F.toNat,.int .u8 N.toNat,.int .u8 P.toNat,.int .u8 I.toNat,.int .u8 n.toNat,.int .u8 o.toNat,.int .u8 m.toNat,.int .u8 u.toNat,.int .u8 g.toNat,.int .u8 e.toNat,.int .u64 0,.int .u64 0,.nilp,.int .i64 0,.bool false,.int .u64 ((d:Int)+1),.int .u64 w]:=yN;have j2:=(Z▸Ext.set C c.length _:Ext [c.length] C T2).get j1 wG;have y2:Ext [c.length,A.length] T T2:=y1.trans ((Z▸Ext.set C c.length _:Ext [c.length] C T2).mono wE) (NewL.refl _ _);obtain⟨R,W⟩:=ql (qn T2 A.length [.int .u8 E.toNat,.int .u8 J.toNat,.int .u8 K.toNat,.int .u8 O.toNat,.int .u8 M.toNat,.int .u8 G.toNat,.int .u8 F.toNat,.int .u8 N.toNat,.int .u8 P.toNat,.int .u8 I.toNat,.int .u8 n.toNat,.int .u8 o.toNat,.int .u8 m.toNat,.int .u8 u.toNat,.int .u8 g.toNat,.int .u8 e.toNat,.int .u64 0,.int .u64 0,.nilp,.int .i64 0,.bool false,.int .u64 ((d:Int)+1),.int .u64 w]);have k3:qd R A.length=some [.int .u8 E.toNat,.int .u8 J.toNat,.int .u8 K.toNat,.int .u8 O.toNat,.int .u8 M.toNat,.int .u8 G.toNat,.int .u8 F.toNat,.int .u8 N.toNat,.int .u8 P.toNat,.int .u8 I.toNat,.int .u8 n.toNat,.int .u8 o.toNat,.int .u8 m.toNat,.int .u8 u.toNat,.int .u8 g.toNat,.int .u8 e.toNat,.int .u64 0,.int .u64 0,.nilp,.int .i64 0,.bool false,.int .u64 ((d:Int)+1),.int .u64 w]:=(by rw[<-W];exact zk (qx j2));have j3:=(W▸Ext.set T2 A.length _:Ext [A.length] T2 R).get k2 wG;have y3:Ext [c.length,A.length] T R:=y2.trans ((W▸Ext.set T2 A.length _:Ext [A.length] T2 R).mono wE) (NewL.refl _ _);simp[-qd,-qr,-qn,Tryz.f81,e1,e2,ah,e3,g3,e4,ae,YB,Y,XQ,U,wd,av,Q,k1,Z,k2,j2,W,k3,j3];exact⟨by rw[<-W,kK];exact qA _,qft ag y3 ai aj,qgh,false,w,by rw[V,if_pos B,if_pos B,decide_eq_true B];rfl,.inr ⟨rfl,wE,rfl,rfl⟩⟩
  .have U:=zq B;obtain⟨C,Q⟩:=ql (qn T A.length [.int .u8 E.toNat,.int .u8 J.toNat,.int .u8 K.toNat,.int .u8 O.toNat,.int .u8 M.toNat,.int .u8 G.toNat,.int .u8 F.toNat,.int .u8 N.toNat,.int .u8 P.toNat,.int .u8 I.toNat,.int .u8 n.toNat,.int .u8 o.toNat,.int .u8 m.toNat,.int .u8 u.toNat,.int .u8 g.toNat,.int .u8 e.toNat,.int .u64 0,.int .u64 0,.nilp,.int .i64 0,.bool false,.int .u64 0,.int .u64 0]);have k1:qd C A.length=some [.int .u8 E.toNat,.int .u8 J.toNat,.int .u8 K.toNat,.int .u8 O.toNat,.int .u8 M.toNat,.int .u8 G.toNat,.int .u8 F.toNat,.int .u8 N.toNat,.int .u8 P.toNat,.int .u8 I.toNat,.int .u8 n.toNat,.int .u8 o.toNat,.int .u8 m.toNat,.int .u8 u.toNat,.int .u8 g.toNat,.int .u8 e.toNat,.int .u64 0,.int .u64 0,.nilp,.int .i64 0,.bool false,.int .u64 0,.int .u64 0]:=(by rw[<-Q];exact zk (qx aa));have j1:=(Q▸Ext.set T A.length _:Ext [A.length] T C).get XQ wG;have y1:Ext [c.length,A.length] T C:=(Q▸Ext.set T A.length _:Ext [A.length] T C).mono wE;simp[-qd,-qr,-qn,Tryz.f81,e1,e2,ah,e3,g3,e4,ae,YB,Y,XQ,aa,U,Q,k1,j1];exact⟨by rw[<-Q,kK];exact qA _,qft ag y1 ai aj,qgh,false,w,by rw[V,if_neg B,if_neg B,decide_eq_false B];rfl,.inr ⟨rfl,wE,rfl,rfl⟩⟩
 have aw:p<H.length:=by simpa[closed] using hv
 have ay:=xT.get aK wE;rcases Bool.eq_false_or_eq_true f with au|au
 case' inl=>
  subst au;simp only[if_true] at hk;have wi:=qz ((i:Int)+1) (k:Int)
 case' inr=>
  subst au;simp only[kZ,if_false] at hk;subst hk;have wi:True:=trivial
 all_goals
  by_cases aB:k<l.length
  .have Kl:=zn aB;obtain⟨x,am⟩:∃x,l[k]?=some x:=⟨_,qN aB⟩;have ex:=qS k x am;simp only[jl] at ex;have aN:d<x.s:=Nat.lt_of_not_le fun h=>by have:=(ac k x am).2 h;omega
   have aU:=hb x (jH am);have ao:=jr ag.len _ (hc x (jH am));obtain⟨ak,aE⟩:∃t,t+1=x.s:=⟨x.s-1,wC⟩;have wt:=zg ((x.s:Int)-1) (ak:Int);have b3:k*4+4<=st:=wC;have b5:4<=st-k*4:=wC;by_cases B:d<ak
   .have U:=zn B;have wd:=zg ((d:Int)+1) ((d:Int)+1);have av:(0:Int)<(d:Int)+1:=wC;obtain⟨C,Q⟩:=ql (qn T c.length [.int .u8 E.toNat,.int .u8 J.toNat,.int .u8 K.toNat,.int .u8 O.toNat,.int .u8 M.toNat,.int .u8 G.toNat,.int .u8 F.toNat,.int .u8 N.toNat,.int .u8 P.toNat,.int .u8 I.toNat,.int .u8 n.toNat,.int .u8 o.toNat,.int .u8 m.toNat,.int .u8 u.toNat,.int .u8 g.toNat,.int .u8 e.toNat,.int .u64 x.s,.int .u64 x.r,x.f,.int .i64 x.i,.bool false,.int .u64 0,.int .u64 0]);have k1:qd C c.length=some [.int .u8 E.toNat,.int .u8 J.toNat,.int .u8 K.toNat,.int .u8 O.toNat,.int .u8 M.toNat,.int .u8 G.toNat,.int .u8 F.toNat,.int .u8 N.toNat,.int .u8 P.toNat,.int .u8 I.toNat,.int .u8 n.toNat,.int .u8 o.toNat,.int .u8 m.toNat,.int .u8 u.toNat,.int .u8 g.toNat,.int .u8 e.toNat,.int .u64 x.s,.int .u64 x.r,x.f,.int .i64 x.i,.bool false,.int .u64 0,.int .u64 0]:=yM;have j1:=(Q▸Ext.set T c.length _:Ext [c.length] T C).get aa wG;have y1:Ext [c.length,A.length] T C:=(Q▸Ext.set T c.length _:Ext [c.length] T C).mono wE;obtain⟨T2,Z⟩:=ql (qn C c.length [.int .u8 E.toNat,.int .u8 J.toNat,.int .u8 K.toNat,.int .u8 O.toNat,.int .u8 M.toNat,.int .u8 G.toNat,.int .u8 F.toNat,.int .u8 N.toNat,.int .u8 P.toNat,.int .u8 I.toNat,.int .u8 n.toNat,.int .u8 o.toNat,.int .u8 m.toNat,.int .u8 u.toNat,.int .u8 g.toNat,.int .u8 e.toNat,.int .u64 x.s,.int .u64 x.r,x.f,.int .i64 x.i,.bool true,.int .u64 0,.int .u64 0]);have k2:qd T2 c.length=some [.int .u8 E.toNat,.int .u8 J.toNat,.int .u8 K.toNat,.int .u8 O.toNat,.int .u8 M.toNat,.int .u8 G.toNat,.int .u8 F.toNat,.int .u8 N.toNat,.int .u8 P.toNat,.int .u8 I.toNat,.int .u8 n.toNat,.int .u8 o.toNat,.int .u8 m.toNat,.int .u8 u.toNat,.int .u8 g.toNat,.int .u8 e.toNat,.int .u64 x.s,.int .u64 x.r,x.f,.int .i64 x.i,.bool true,.int .u64 0,.int .u64 0]:=yN;have j2:=(Z▸Ext.set C c.length _:Ext [c.length] C T2).get j1 wG;have y2:Ext [c.length,A.length] T T2:=y1.trans ((Z▸Ext.set C c.length _:Ext [c.length] C T2).mono wE) (NewL.refl _ _);obtain⟨R,W⟩:=ql (qn T2 c.length [.int .u8 E.toNat,.int .u8 J.toNat,.int .u8 K.toNat,.int .u8 O.toNat,.int .u8 M.toNat,.int .u8 G.toNat,.int .u8 F.toNat,.int .u8 N.toNat,.int .u8 P.toNat,.int .u8 I.toNat,.int .u8 n.toNat,.int .u8 o.toNat,.int .u8 m.toNat,.int .u8 u.toNat,.int .u8 g.toNat,.int .u8 e.toNat,.int .u64 x.s,.int .u64 x.r,x.f,.int .i64 x.i,.bool true,.int .u64 ((d:Int)+1),.int .u64 0]);have k3:qd R c.length=some [.int .u8 E.toNat,.int .u8 J.toNat,.int .u8 K.toNat,.int .u8 O.toNat,.int .u8 M.toNat,.int .u8 G.toNat,.int .u8 F.toNat,.int .u8 N.toNat,.int .u8 P.toNat,.int .u8 I.toNat,.int .u8 n.toNat,.int .u8 o.toNat,.int .u8 m.toNat,.int .u8 u.toNat,.int .u8 g.toNat,.int .u8 e.toNat,.int .u64 x.s,.int .u64 x.r,x.f,.int .i64 x.i,.bool true,.int .u64 ((d:Int)+1),.int .u64 0]:=(by rw[<-W];exact zk (qx k2));have j3:=(W▸Ext.set T2 c.length _:Ext [c.length] T2 R).get j2 wG;have y3:Ext [c.length,A.length] T R:=y2.trans ((W▸Ext.set T2 c.length _:Ext [c.length] T2 R).mono wE) (NewL.refl _ _);obtain⟨T4,f4⟩:=ql (qn R c.length [.int .u8 E.toNat,.int .u8 J.toNat,.int .u8 K.toNat,.int .u8 O.toNat,.int .u8 M.toNat,.int .u8 G.toNat,.int .u8 F.toNat,.int .u8 N.toNat,.int .u8 P.toNat,.int .u8 I.toNat,.int .u8 n.toNat,.int .u8 o.toNat,.int .u8 m.toNat,.int .u8 u.toNat,.int .u8 g.toNat,.int .u8 e.toNat,.int .u64 x.s,.int .u64 x.r,x.f,.int .i64 x.i,.bool true,.int .u64 ((d:Int)+1),.int .u64 ak]);have k4:=kc f4 k3;have j4:=(f4▸Ext.set R c.length _:Ext [c.length] R T4).get j3 wG;have y4:Ext [c.length,A.length] T T4:=y3.trans ((f4▸Ext.set R c.length _:Ext [c.length] R T4).mono wE) (NewL.refl _ _);obtain⟨T5,f5⟩:=ql (qn T4 A.length [.int .u8 E.toNat,.int .u8 J.toNat,.int .u8 K.toNat,.int .u8 O.toNat,.int .u8 M.toNat,.int .u8 G.toNat,.int .u8 F.toNat,.int .u8 N.toNat,.int .u8 P.toNat,.int .u8 I.toNat,.int .u8 n.toNat,.int .u8 o.toNat,.int .u8 m.toNat,.int .u8 u.toNat,.int .u8 g.toNat,.int .u8 e.toNat,.int .u64 x.s,.int .u64 x.r,x.f,.int .i64 x.i,.bool true,.int .u64 ((d:Int)+1),.int .u64 ak]);have k5:=kc f5 j4;have j5:=(f5▸Ext.set T4 A.length _:Ext [A.length] T4 T5).get k4 wG;have y5:Ext [c.length,A.length] T T5:=y4.trans ((f5▸Ext.set T4 A.length _:Ext [A.length] T4 T5).mono wE) (NewL.refl _ _);have aJ:closed T4.length x.f=true:=jr y4.len _ ao;have aM:closed T5.length x.f=true:=jr y5.len _ ao;simp[-qd,-qr,-qn,Tryz.f81,e1,e2,ah,e3,g3,e4,ae,aw,YB,Y,XQ,wi,Kl,ay,aD,ex,b5,ao,wt,U,wd,aJ,Q,k1,Z,k2,W,k3,f4,k4,j4,f5,k5];exact⟨by rw[<-f5,kK];exact qA _,qft ag y5 ai aj,jl x,true,ak,by rw[V,if_pos B,if_pos B];rfl,.inl ⟨rfl,k,x,am,ac,rfl,aE⟩⟩
   .have U:=zq B;obtain⟨C,Q⟩:=ql (qn T c.length [.int .u8 E.toNat,.int .u8 J.toNat,.int .u8 K.toNat,.int .u8 O.toNat,.int .u8 M.toNat,.int .u8 G.toNat,.int .u8 F.toNat,.int .u8 N.toNat,.int .u8 P.toNat,.int .u8 I.toNat,.int .u8 n.toNat,.int .u8 o.toNat,.int .u8 m.toNat,.int .u8 u.toNat,.int .u8 g.toNat,.int .u8 e.toNat,.int .u64 x.s,.int .u64 x.r,x.f,.int .i64 x.i,.bool false,.int .u64 0,.int .u64 0]);have k1:qd C c.length=some [.int .u8 E.toNat,.int .u8 J.toNat,.int .u8 K.toNat,.int .u8 O.toNat,.int .u8 M.toNat,.int .u8 G.toNat,.int .u8 F.toNat,.int .u8 N.toNat,.int .u8 P.toNat,.int .u8 I.toNat,.int .u8 n.toNat,.int .u8 o.toNat,.int .u8 m.toNat,.int .u8 u.toNat,.int .u8 g.toNat,.int .u8 e.toNat,.int .u64 x.s,.int .u64 x.r,x.f,.int .i64 x.i,.bool false,.int .u64 0,.int .u64 0]:=yM;have j1:=(Q▸Ext.set T c.length _:Ext [c.length] T C).get aa wG;have y1:Ext [c.length,A.length] T C:=(Q▸Ext.set T c.length _:Ext [c.length] T C).mono wE;obtain⟨T2,Z⟩:=ql (qn C c.length [.int .u8 E.toNat,.int .u8 J.toNat,.int .u8 K.toNat,.int .u8 O.toNat,.int .u8 M.toNat,.int .u8 G.toNat,.int .u8 F.toNat,.int .u8 N.toNat,.int .u8 P.toNat,.int .u8 I.toNat,.int .u8 n.toNat,.int .u8 o.toNat,.int .u8 m.toNat,.int .u8 u.toNat,.int .u8 g.toNat,.int .u8 e.toNat,.int .u64 x.s,.int .u64 x.r,x.f,.int .i64 x.i,.bool true,.int .u64 0,.int .u64 0]);have k2:qd T2 c.length=some [.int .u8 E.toNat,.int .u8 J.toNat,.int .u8 K.toNat,.int .u8 O.toNat,.int .u8 M.toNat,.int .u8 G.toNat,.int .u8 F.toNat,.int .u8 N.toNat,.int .u8 P.toNat,.int .u8 I.toNat,.int .u8 n.toNat,.int .u8 o.toNat,.int .u8 m.toNat,.int .u8 u.toNat,.int .u8 g.toNat,.int .u8 e.toNat,.int .u64 x.s,.int .u64 x.r,x.f,.int .i64 x.i,.bool true,.int .u64 0,.int .u64 0]:=yN;have j2:=(Z▸Ext.set C c.length _:Ext [c.length] C T2).get j1 wG;have y2:Ext [c.length,A.length] T T2:=y1.trans ((Z▸Ext.set C c.length _:Ext [c.length] C T2).mono wE) (NewL.refl _ _);obtain⟨R,W⟩:=ql (qn T2 A.length [.int .u8 E.toNat,.int .u8 J.toNat,.int .u8 K.toNat,.int .u8 O.toNat,.int .u8 M.toNat,.int .u8 G.toNat,.int .u8 F.toNat,.int .u8 N.toNat,.int .u8 P.toNat,.int .u8 I.toNat,.int .u8 n.toNat,.int .u8 o.toNat,.int .u8 m.toNat,.int .u8 u.toNat,.int .u8 g.toNat,.int .u8 e.toNat,.int .u64 x.s,.int .u64 x.r,x.f,.int .i64 x.i,.bool true,.int .u64 0,.int .u64 0]);have k3:qd R A.length=some [.int .u8 E.toNat,.int .u8 J.toNat,.int .u8 K.toNat,.int .u8 O.toNat,.int .u8 M.toNat,.int .u8 G.toNat,.int .u8 F.toNat,.int .u8 N.toNat,.int .u8 P.toNat,.int .u8 I.toNat,.int .u8 n.toNat,.int .u8 o.toNat,.int .u8 m.toNat,.int .u8 u.toNat,.int .u8 g.toNat,.int .u8 e.toNat,.int .u64 x.s,.int .u64 x.r,x.f,.int .i64 x.i,.bool true,.int .u64 0,.int .u64 0]:=(by rw[<-W];exact zk (qx j2));have j3:=(W▸Ext.set T2 A.length _:Ext [A.length] T2 R).get k2 wG;have y3:Ext [c.length,A.length] T R:=y2.trans ((W▸Ext.set T2 A.length _:Ext [A.length] T2 R).mono wE) (NewL.refl _ _);have aI:closed T2.length x.f=true:=jr y2.len _ ao;have aP:closed R.length x.f=true:=jr y3.len _ ao;simp[-qd,-qr,-qn,Tryz.f81,e1,e2,ah,e3,g3,e4,ae,aw,YB,Y,XQ,wi,Kl,ay,aD,ex,b5,ao,wt,U,aI,Q,k1,Z,k2,j2,W,k3];exact⟨by rw[<-W,kK];exact qA _,qft ag y3 ai aj,jl x,true,ak,by rw[V,if_neg B,if_neg B];rfl,.inl ⟨rfl,k,x,am,ac,rfl,aE⟩⟩
  .have Kl:=zq aB
   have jd:∀z,z∈l->z.s<=d:=fun z hz=>by
    obtain⟨j,hj⟩:=List.mem_iff_getElem?.1 hz;exact(ac j z hj).1 (by have:=(List.getElem?_eq_some_iff.1 hj).1;omega)
   by_cases B:d<w
   .have U:=zn B;have wd:=zg ((d:Int)+1) ((d:Int)+1);have av:(0:Int)<(d:Int)+1:=wC;obtain⟨C,Q⟩:=ql (qn T c.length [.int .u8 E.toNat,.int .u8 J.toNat,.int .u8 K.toNat,.int .u8 O.toNat,.int .u8 M.toNat,.int .u8 G.toNat,.int .u8 F.toNat,.int .u8 N.toNat,.int .u8 P.toNat,.int .u8 I.toNat,.int .u8 n.toNat,.int .u8 o.toNat,.int .u8 m.toNat,.int .u8 u.toNat,.int .u8 g.toNat,.int .u8 e.toNat,.int .u64 0,.int .u64 0,.nilp,.int .i64 0,.bool false,.int .u64 ((d:Int)+1),.int .u64 0]);have k1:qd C c.length=some [.int .u8 E.toNat,.int .u8 J.toNat,.int .u8 K.toNat,.int .u8 O.toNat,.int .u8 M.toNat,.int .u8 G.toNat,.int .u8 F.toNat,.int .u8 N.toNat,.int .u8 P.toNat,.int .u8 I.toNat,.int .u8 n.toNat,.int .u8 o.toNat,.int .u8 m.toNat,.int .u8 u.toNat,.int .u8 g.toNat,.int .u8 e.toNat,.int .u64 0,.int .u64 0,.nilp,.int .i64 0,.bool false,.int .u64 ((d:Int)+1),.int .u64 0]:=yM;have j1:=(Q▸Ext.set T c.length _:Ext [c.length] T C).get aa wG;have y1:Ext [c.length,A.length] T C:=(Q▸Ext.set T c.length _:Ext [c.length] T C).mono wE;obtain⟨T2,Z⟩:=ql (qn C c.length [.int .u8 E.toNat,.int .u8 J.toNat,.int .u8 K.toNat,.int .u8 O.toNat,.int .u8 M.toNat,.int .u8 G.toNat,.int .u8 F.toNat,.int .u8 N.toNat,.int .u8 P.toNat,.int .u8 I.toNat,.int .u8 n.toNat,.int .u8 o.toNat,.int .u8 m.toNat,.int .u8 u.toNat,.int .u8 g.toNat,.int .u8 e.toNat,.int .u64 0,.int .u64 0,.nilp,.int .i64 0,.bool false,.int .u64 ((d:Int)+1),.int .u64 w]);have k2:qd T2 c.length=some [.int .u8 E.toNat,.int .u8 J.toNat,.int .u8 K.toNat,.int .u8 O.toNat,.int .u8 M.toNat,.int .u8 G.toNat,.int .u8 F.toNat,.int .u8 N.toNat,.int .u8 P.toNat,.int .u8 I.toNat,.int .u8 n.toNat,.int .u8 o.toNat,.int .u8 m.toNat,.int .u8 u.toNat,.int .u8 g.toNat,.int .u8 e.toNat,.int .u64 0,.int .u64 0,.nilp,.int .i64 0,.bool false,.int .u64 ((d:Int)+1),.int .u64 w]:=yN;have j2:=(Z▸Ext.set C c.length _:Ext [c.length] C T2).get j1 wG;have y2:Ext [c.length,A.length] T T2:=y1.trans ((Z▸Ext.set C c.length _:Ext [c.length] C T2).mono wE) (NewL.refl _ _);obtain⟨R,W⟩:=ql (qn T2 A.length [.int .u8 E.toNat,.int .u8 J.toNat,.int .u8 K.toNat,.int .u8 O.toNat,.int .u8 M.toNat,.int .u8 G.toNat,.int .u8 F.toNat,.int .u8 N.toNat,.int .u8 P.toNat,.int .u8 I.toNat,.int .u8 n.toNat,.int .u8 o.toNat,.int .u8 m.toNat,.int .u8 u.toNat,.int .u8 g.toNat,.int .u8 e.toNat,.int .u64 0,.int .u64 0,.nilp,.int .i64 0,.bool false,.int .u64 ((d:Int)+1),.int .u64 w]);have k3:qd R A.length=some [.int .u8 E.toNat,.int .u8 J.toNat,.int .u8 K.toNat,.int .u8 O.toNat,.int .u8 M.toNat,.int .u8 G.toNat,.int .u8 F.toNat,.int .u8 N.toNat,.int .u8 P.toNat,.int .u8 I.toNat,.int .u8 n.toNat,.int .u8 o.toNat,.int .u8 m.toNat,.int .u8 u.toNat,.int .u8 g.toNat,.int .u8 e.toNat,.int .u64 0,.int .u64 0,.nilp,.int .i64 0,.bool false,.int .u64 ((d:Int)+1),.int .u64 w]:=(by rw[<-W];exact zk (qx j2));have j3:=(W▸Ext.set T2 A.length _:Ext [A.length] T2 R).get k2 wG;have y3:Ext [c.length,A.length] T R:=y2.trans ((W▸Ext.set T2 A.length _:Ext [A.length] T2 R).mono wE) (NewL.refl _ _);simp[-qd,-qr,-qn,Tryz.f81,e1,e2,ah,e3,g3,e4,ae,aw,YB,Y,XQ,wi,Kl,U,wd,av,Q,k1,Z,k2,j2,W,k3,j3];exact⟨by rw[<-W,kK];exact qA _,qft ag y3 ai aj,qgh,false,w,by rw[V,if_pos B,if_pos B,decide_eq_true B];rfl,.inr ⟨rfl,jd,rfl,rfl⟩⟩
   .have U:=zq B;obtain⟨C,Q⟩:=ql (qn T A.length [.int .u8 E.toNat,.int .u8 J.toNat,.int .u8 K.toNat,.int .u8 O.toNat,.int .u8 M.toNat,.int .u8 G.toNat,.int .u8 F.toNat,.int .u8 N.toNat,.int .u8 P.toNat,.int .u8 I.toNat,.int .u8 n.toNat,.int .u8 o.toNat,.int .u8 m.toNat,.int .u8 u.toNat,.int .u8 g.toNat,.int .u8 e.toNat,.int .u64 0,.int .u64 0,.nilp,.int .i64 0,.bool false,.int .u64 0,.int .u64 0]);have k1:qd C A.length=some [.int .u8 E.toNat,.int .u8 J.toNat,.int .u8 K.toNat,.int .u8 O.toNat,.int .u8 M.toNat,.int .u8 G.toNat,.int .u8 F.toNat,.int .u8 N.toNat,.int .u8 P.toNat,.int .u8 I.toNat,.int .u8 n.toNat,.int .u8 o.toNat,.int .u8 m.toNat,.int .u8 u.toNat,.int .u8 g.toNat,.int .u8 e.toNat,.int .u64 0,.int .u64 0,.nilp,.int .i64 0,.bool false,.int .u64 0,.int .u64 0]:=(by rw[<-Q];exact zk (qx aa));have j1:=(Q▸Ext.set T A.length _:Ext [A.length] T C).get XQ wG;have y1:Ext [c.length,A.length] T C:=(Q▸Ext.set T A.length _:Ext [A.length] T C).mono wE;simp[-qd,-qr,-qn,Tryz.f81,e1,e2,ah,e3,g3,e4,ae,aw,YB,Y,XQ,aa,wi,Kl,U,Q,k1,j1];exact⟨by rw[<-Q,kK];exact qA _,qft ag y1 ai aj,qgh,false,w,by rw[V,if_neg B,if_neg B,decide_eq_false B];rfl,.inr ⟨rfl,jd,rfl,rfl⟩⟩
end Go.Ev.S
namespace Go.Ev
open Go Go.Proofs
section
variable {P:Program} {n:Nat} {t e:TypeId} {cs:List D}
theorem q3y{k:IntKind}(a:P.underlying t=some (.int k))(h:Je P (n+1) t cs):∃x,cs=[.int k x]/\(Lit.int k x).wf=true:=by
 unfold Je at h;rw[a] at h;exact h
def qk9(n:Int):Prop:= -9223372036854775808<=n/\n<9223372036854775808
theorem q3z(a:P.underlying t=some (.int .i64))(h:Je P (n+1) t cs):∃x,cs=[.int .i64 x]/\qk9 x:=by
 obtain⟨x,c,b⟩:=q3y a h;refine⟨x,c,?_⟩;simp[Lit.wf,IntKind.min,IntKind.max,IntKind.signed,IntKind.bits] at b;unfold qk9;omega
theorem qnm{α:Type}[Enc α]{R:α->Prop}{Q:List D->Prop}(d:∀l,Q l->∃a:α,l=Enc.cells a/\R a):∀(b:List (List D)),(∀l,l∈b->Q l)->∃s:List α,b.flatten=qt s/\s.length=b.length/\∀a,a∈s->R a
 |[],_=>⟨[],rfl,rfl,wE⟩
 |l::b,h=>by
  obtain⟨x,hx,e⟩:=d l (h l (Z1 ..));obtain⟨s,i,k,f⟩:=qnm d b fun j g=>h j (vq _ g);refine⟨x::s,by rw[qlU,hx,i,Ky],xV,fun a c=>?_⟩;rcases List.mem_cons.1 c with rfl|c
  .exact e
  .exact f a c
theorem qtw{α:Type}[Enc α]{R:α->Prop}(b:P.underlying t=some (.slice e))(o:∀l,Je P n e l->∃a:α,l=Enc.cells a/\R a)(h:Je P (n+1) t cs):∃s:Sl α,cs=[(.vsl s.nil (qt s.l) s.l.length)]/\s.l.length<=maxLen/\∀a,a∈s.l->R a:=by
 unfold Je at h;rw[b] at h;rcases h with rfl|⟨f,j,m,g⟩
 .exact⟨.none,rfl,wE,wE⟩
 .obtain⟨s,d,k,c⟩:=qnm o f fun l i=>(g l i).2;exact⟨.of s,by rw[j,d,<-k];rfl,by simp only[Sl.of_l];have:=m.1;omega,c⟩
end
theorem q4W{W:World}{d:D}{v:Value}(h:Cor W [d] v.cells.toList)(a:v.oneCell'=true):Rep (· <W.heap.size) W jB [] d v:=by
 have b:v.cells.toList=[v]:=by
  cases v<;>first|rfl|simp[Value.oneCell'] at a
 rw[b] at h;exact h.2.2 0 d rfl
end Go.Ev
namespace Go.Ev
open Go Go.Proofs
theorem qz3{P:Program}{W:World}{base:Nat}{t e:TypeId}{v:Value}(a:P.underlying t=some (.slice e))(h:Value.okWide P W .any base t v):v.oneCell'=true:=by
 simp only[Value.okWide,a,Cell.okWide] at h;cases v<;>first|rfl|simp[Cell.ok,a] at h
section
variable {H:Type} {enc:TypeId×Value->H} {P:Program} {W:World} {base n:Nat} {t e:TypeId} {v:Value} {d:DataW H} {ps:List MemPlace}
theorem q6t{α:Type}[Enc α]{R:α->Prop}(b:P.underlying t=some (.slice e))(m:∀l,Je P n e l->∃a:α,l=Enc.cells a/\R a)(c:qdR P (n+1) t=true)(g:Value.okWide P W .any base t v)(h:DataW.Trod enc P W 0 (fun _=>true) true t v d ps/\Wok P t d):
  ∃s:Sl α,Rep (· <W.heap.size) W jB [] (.vsl s.nil (qt s.l) s.l.length) v/\s.l.length<=maxLen/\∀a,a∈s.l->R a:=by
 obtain⟨ds,j,k⟩:=qy6 c h;obtain⟨s,rfl,i,f⟩:=qtw b m j;exact⟨s,q4W k (qz3 b g),i,f⟩
end
theorem qy2{ok:Nat->Prop}{w:World}{ι:qV}{H:qe}:RepL ok w ι H [] []:=⟨rfl,wE⟩
theorem qn7{ok:Nat->Prop}{w:World}{ι:qV}{H:qe}{d:D}{v:Value}{ds:List D}{vs:List Value}(h:Rep ok w ι H d v)(b:RepL ok w ι H ds vs):RepL ok w ι H (d::ds) (v::vs):=by
 refine⟨by simp[b.1],fun j x a=>?_⟩;cases j with
 |zero=>simp at a;subst a;exact h
 |succ j=>exact b.2 j x wr
end Go.Ev
namespace Go.Ev.S
open Go Go.Proofs Go.Ev
theorem quS[MaxL][TxtC](x y:Sl UInt8):call cx 69 [(.vsl x.nil (qf x.l) x.l.length),(.vsl y.nil (qf y.l) y.l.length)] []=some (.int .i64 (qI x.l y.l),[]):=by
 have h:call cx 121 [(.vsl x.nil (qf x.l) x.l.length),(.vsl y.nil (qf y.l) y.l.length)] []=some (.int .i64 (qI x.l y.l),[]):=by
  rw[qiA (X:=cx) (f:=121) rfl Tryz.func121 rfl,qug,q58 x.nil y.nil x.l y.l x.h y.h];rfl
 refine qC Tryz.func69 rfl ⟨rfl,rfl⟩ ?_;simp[Tryz.f69,h]
theorem quR[MaxL][TxtC](x y:ID):call cx 69 [.vsl false (qf x.l) 16,.vsl false (qf y.l) 16] []=some (.int .i64 (qI x.l y.l),[]):=by
 have h:=quS (.of x.l) (.of y.l);simpa using h
theorem qzy[MaxL][TxtC](a b:Int):call cx 131 [.vsl false [.int .i64 a,.int .i64 b] 2] []=some (.int .i64 (if a=0 then b else a),[]):=by
 refine qC Tryz.func131 rfl ⟨rfl,rfl⟩ ?_;have h:IntKind.i64.wrap (0+1)=1:=rfl;have g:IntKind.i64.wrap (1+1)=2:=rfl;simp[Tryz.f131];refine Vd ?_;by_cases c:a=0
 case neg=>
  have f:(a !=0)=true:=wS
  simp[c,f]
 subst c;simp;refine Vd ?_;by_cases d:b=0
 case neg=>
  have e:(b !=0)=true:=ww
  simp[e]
 subst d;simp;refine Vd ?_;simp
theorem qzX(ds:List D):qr [] ds=[some ds]:=rfl
def qjS(a d:Bool)(c b:Nat)(e f:List UInt8):Int:=
 if a&& !d then-1 else if d&& !a then 1 else if Qs c b=0 then qI e f else Qs c b
def Yh(s r:Nat)(f:D)(i:Int):List D:=[.int .u64 (s:Nat),.int .u64 (r:Nat),f,.int .i64 i]
theorem q0m[MaxL][TxtC](H:qe)(b c:List UInt8)(l:b.length=16)(n:c.length=16)(s e v d:Nat)(q f:D)(u E:Int)(h j:Bool)(t F G I:Nat)(O:closed H.length q=true)(Y:closed H.length f=true):
  ∃T,call cx 84 [.agg (KP b (Yh s e q u) h t F),.agg (KP c (Yh v d f E) j G I)] H=some (.int .i64 (qjS h j e d b c),T)/\Ext [] H T:=by
 obtain⟨a0,a1,a2,a3,a4,a5,a6,a7,a8,a9,V,J,M,ac,S,U,m⟩:=qia b l;obtain⟨b0,b1,b2,b3,b4,b5,b6,b7,b8,b9,P,L,ae,R,aa,Z,W⟩:=qia c n;have a:=quS ⟨false,b,wE⟩ ⟨false,c,wE⟩;have hc:=ql5 e d;have x:=qzy (Qs e d) (qI b c);obtain⟨z,Q⟩:∃z,z=qI b c:=⟨_,rfl⟩;obtain⟨A,g⟩:∃A,A=KP b (Yh s e q u) h t F:=⟨_,rfl⟩;obtain⟨B,i⟩:∃B,B=KP c (Yh v d f E) j G I:=⟨_,rfl⟩;unfold qjS;rw[<-g,<-i];rw[<-Q] at a x⊢;rw[m] at g a;rw[W] at i a;simp[KP,Yh,qf] at g i a;obtain⟨C,k⟩:=ql (qr H A);obtain⟨y,e2⟩:=ql (qr C B);have r:=zJ k;have w:=zJ e2;have X:=js k;have K:=w.get X wE;have N:=js e2;have p:closed C.length f=true:=jr r.len _ Y;have o:Ext [] H y:=r.trans w (NewL.refl _ _);subst g i;refine⟨y,jy Tryz.func84 rfl ⟨rfl,rfl⟩ ?_,o⟩;cases h<;>cases j<;>simp[-qd,-qr,Tryz.f84,k,e2,K,N,O,p,hc,a,x,qzX]
structure NxV where
 id:List UInt8
 s:Nat
 r:Nat
 f:D
 i:Int
 th:Bool
 fr:Nat
 tt:Nat
def NxV.c(x:NxV):List D:=KP x.id (Yh x.s x.r x.f x.i) x.th x.fr x.tt
structure NxV.Ok (x:NxV) (n:Nat):Prop where
 id:x.id.length=16
 f:closed n x.f=true
theorem NxV.Ok.mono{x:NxV}{n m:Nat}(h:x.Ok n)(a:n<=m):x.Ok m:=⟨h.id,jr a _ h.f⟩
theorem NxV.len{x:NxV}{n:Nat}(h:x.Ok n):x.c.length=23:=by simp[NxV.c,KP,Yh,h.id]
theorem ql7(n:Nat)(l:List UInt8):(qf l).all (closed n)=true:=List.all_eq_true.2 fun d a=>by
 simp only[qf,ZM] at a;obtain⟨c,-,rfl⟩:=a;rfl
theorem NxV.cl{x:NxV}{n:Nat}(h:x.Ok n):x.c.all (closed n)=true:=by
 simp only[NxV.c,KP,Yh,List.all_append,ql7,Vc,List.all_nil,h.f];rfl
def JV(l:List NxV):List D:=l.flatMap NxV.c
theorem qiy{n:Nat}:∀{l:List NxV}(_:∀x,x∈l->x.Ok n),(JV l).length=23*l.length
 |[],_=>rfl
 |x::l,h=>by
  have c:=qiy (l:=l) fun y a=>h y (vq _ a);have b:=NxV.len (h x wE);simp only[JV,List.flatMap_cons,zp,jA] at *;omega
theorem qu9{n:Nat}:∀{l:List NxV}(_:∀x,x∈l->x.Ok n)(j:Nat),(JV l).drop (j*23)=JV (l.drop j)
 |l,_,0=>by simp
 |[],_,j+1=>by simp[JV]
 |x::l,h,j+1=>by
  have b:=qu9 (l:=l) (fun y a=>h y (vq _ a)) j;have c:=NxV.len (h x wE);rw[List.drop_succ_cons,<-b,show(j+1)*23=23+j*23 from wC,<-ky];congr 1;simp only[JV,List.flatMap_cons];rw[List.drop_append_of_le_length wC,List.drop_of_length_le wC,QY]
theorem qu8{n:Nat}{l:List NxV}(h:∀x,x∈l->x.Ok n){j:Nat}{x:NxV}(b:l[j]?=some x):((JV l).drop (j*23)).take 23=x.c:=by
 obtain⟨a,rfl⟩:=List.getElem?_eq_some_iff.1 b;have d:=NxV.len (h _ (vQ a));rw[qu9 h,zZ a];simp only[JV,List.flatMap_cons];rw[List.take_append_of_le_length wC,qJ wC]
def qfb(x y:NxV):Int:=qjS x.th y.th x.r y.r x.id y.id
def Vh(m:NxV):List NxV->NxV
 |[]=>m
 |y::l=>Vh (if qfb y m<0 then y else m) l
theorem qoG:∀(l:List NxV)(m y:NxV),Vh m (l++[y])=if qfb y (Vh m l)<0 then y else Vh m l
 |[],_,_=>rfl
 |_::l,_,y=>qoG l _ y
theorem qhE:∀(l:List NxV)(m:NxV),Vh m l∈m::l
 |[],m=>by simp[Vh]
 |y::l,m=>by
  have:=qhE l (if qfb y m<0 then y else m);rw[Vh];rcases List.mem_cons.1 this with h|h
  .rw[h];split<;>simp
  .simp[h]
theorem qzw[MaxL][TxtC](H:qe)(x y:NxV)(hx:x.Ok H.length)(a:y.Ok H.length):∃T,call cx 84 [.agg x.c,.agg y.c] H=some (.int .i64 (qfb x y),T)/\Ext [] H T:=
 q0m H x.id y.id hx.id a.id x.s x.r y.s y.r x.f y.f x.i y.i x.th y.th x.fr x.tt y.fr y.tt hx.f a.f
def qvL(H:qe)(x:NxV)(l:List NxV)(q:D×qe):Prop:=Ext [] H q.2/\q.1=.agg (Vh x l).c
theorem q0r[MaxL][TxtC]{H:qe}{p:Nat}{a:NxV}{l:List NxV}(O:qd H p=some (JV (a::l)))(t:∀x,x∈a::l->x.Ok H.length)(hl:l.length<1000000):
  ∃q,call cx 83 [.osl p (23*(a::l).length) 0 (a::l).length 23,.fn 84 []] H=some q/\qvL H a l q:=by
 obtain⟨L,v⟩:∃L,L=a::l:=⟨_,rfl⟩;have am:L.length=l.length+1:=by rw[v];rfl
 rw[<-v] at O t⊢;have Y:(JV L).length=23*L.length:=qiy t;refine vz (X:=cx) (f:=83) (qvL H a l) Tryz.func83 rfl ⟨rfl,rfl⟩ ?_;obtain⟨Z,hZ⟩:∃Z,Z=(qM [.int .u64 0,.int .u64 0,.nilp,.int .i64 0,.bool false,.int .u64 0,.int .u64 0]):=⟨_,rfl⟩;have aj:Z.length=23:=by rw[hZ];rfl
 obtain⟨g,P⟩:=ql (qr H Z);obtain⟨K,e2⟩:=ql (qr g Z);obtain⟨H3,e3⟩:=ql (qn K g.length a.c);have o:=zJ P;have s:=zJ e2;have W:=vZ e3;have J:=js P;have g2:=js e2;have g3:=kc e3 g2;have ai:H.length<g.length:=qx J;have ah:p<H.length:=qx O;have kL:qd g p=some (JV L):=o.get O wE;have b3:0<L.length:=wC
 have Js:qd K p=some (JV L):=s.get (o.get O wE) wE;have ak:qd H3 p=some (JV L):=W.get Js wG;have aa:qd H3 H.length=some Z:=W.get (s.get J wE) wG;have B:=t a (by rw[v];simp);have l0:a.c.length=23:=NxV.len B;have c0:=eq_true (List.all_eq_true.1 (NxV.cl (B.mono (zI o.len s.len))));have G:=qu8 (j:=0) t (x:=a) (by rw[v];rfl);simp only[Nat.zero_mul,List.drop_zero] at G;have b0:¬(L.length:Int)<1:=wC
 have b1:(0:Int)<(L.length:Int):=wC
 have b2:23<=23*L.length:=wC
 have sz:zU Z 0 a.c=a.c:=by unfold zU;rw[l0,List.drop_of_length_le wC];simp
 rw[hZ] at P e2 J g2 aa sz
 have w:∀{cs xs:List D},cs.length=23->xs.length=23->List.take 0 cs++(xs++List.drop 23 cs)=xs:=fun h1 h2=>by
  rw[List.drop_of_length_le wC];simp
 have ae:∀k,(Vh a (l.take k)).Ok H.length:=fun k=>t _ (by
  rw[v];rcases List.mem_cons.1 (qhE (l.take k) a) with h|h
  .rw[h];simp
  .exact vq _ (QZ h))
 simp[-qd,-qr,-qn,Tryz.f83,b0,b2,b3,P,e2,e3,kL,g2,Y,G,l0,c0];refine Run.loopThen (fun(k:Nat) e T=>1<=k/\k<=L.length/\qi e 0=some (.osl p (23*L.length) 0 L.length 23)/\qi e 1=some (.fn 84 [])/\qi e 4=some (.optr H.length 23 0)/\qi e 5=some (.optr g.length 23 0)/\qi e 6=some (.int .i64 k)/\Ext [g.length] K T/\qd T g.length=some (Vh a (l.take (k-1))).c) (fun k=>L.length-k) 1 ?_ ?_
 .exact⟨qA _,wC,wE,wE,wE,wE,wE,W,by simpa[Vh] using g3⟩
 rintro k e T ⟨k1,k2,R,p1,p4,p5,p6,hx,F⟩;have u:qd T p=some (JV L):=hx.get Js wG;have z:qd T H.length=some _:=hx.get (s.get J wE) wG;have E:H.length<=T.length:=zI (zI o.len s.len) hx.len;obtain⟨m,C⟩:∃m,m=Vh a (l.take (k-1)):=⟨_,rfl⟩;rw[<-C] at F;have U:m.Ok H.length:=C▸ae _;have lm:=NxV.len U;have tm:List.take 23 m.c=m.c:=qJ wC;by_cases qg:k<L.length
 case neg=>
  have N:=zq qg;have cm:=eq_true (List.all_eq_true.1 (NxV.cl (U.mono E)));obtain⟨T1,t1⟩:=ql (qn T H.length m.c);have ag:=kc t1 z;simp[-qd,-qn,R,p1,p4,p5,p6,N,F,lm,tm,z,t1,cm,ag];have hk:k-1=l.length:=wC
  rw[hk,List.take_length] at C;have xt:=vZ t1;refine⟨⟨zI E xt.len,fun i hi _=>?_⟩,by rw[C]⟩;rw[xt.out i wC wG,hx.out i (by have:=o.len;have:=s.len;omega) wG,s.out i (by have:=o.len;omega) wE,o.out i hi wE]
 have N:=zn qg;obtain⟨y,I⟩:∃y,L[k]?=some y:=⟨_,qN qg⟩;have ey:=qu8 t I;have S:=t y (jH I);have ly:=NxV.len S;have wk:=qz ((k:Int)+1) ((k+1:Nat):Int);obtain⟨T1,c1,b⟩:=qzw T y m (S.mono E) (U.mono E);have d1:23<=23*L.length-k*23:=wC
 have d2:k*23+23<=23*L.length:=wC
 have r:=b.get F wE;have n:Ext [g.length] K T1:=hx.trans (b.mono fun i hi=>wV) (NewL.refl _ _)
 have d:Vh a (l.take k)=if qfb y m<0 then y else m:=by
  have Q:l[k-1]?=some y:=by rw[v] at I;rw[<-I,show k=(k-1)+1 from wC];rfl
  have:l.take k=l.take (k-1)++[y]:=by
   obtain⟨h1,h2⟩:=List.getElem?_eq_some_iff.1 Q;rw[show k=(k-1)+1 from wC,Vs h1,h2];rfl
  rw[this,qoG,<-C]
 by_cases M:qfb y m<0
 .rw[if_pos M] at d;have cy:=eq_true (List.all_eq_true.1 (NxV.cl (S.mono (zI E b.len))));obtain⟨T2,t2⟩:=ql (qn T1 g.length y.c);have ac:=vZ t2;have V:=kc t2 r;have A:=b.get u wE;simp[-qd,-qn,R,p1,p4,p5,p6,N,u,Y,ey,d1,F,lm,tm,ly,c1,M,wk,A,r,cy];have Xl:y.c++List.drop 23 m.c=y.c:=by rw[List.drop_of_length_le wC];simp
  rw[Xl,t2];exact⟨k+1,wC,wC,wC,wC,n.trans ac (NewL.refl _ _),by rw[V,show k+1-1=k from wC,d]⟩
 .rw[if_neg M] at d;simp[-qd,-qn,R,p1,p4,p5,p6,N,u,Y,ey,d1,F,lm,tm,c1,M,wk];exact⟨k+1,wC,wC,wC,wC,n,by rw[r,show k+1-1=k from wC,d]⟩
end Go.Ev.S
namespace Go.Ev
open Go Go.Proofs
structure HdP where
 compat:Nat
 incompat:Nat
 state:Nat
 file:ID
 machine:ID
 boot:ID
 seq:ID
 n:List Nat
 hn:n.length=21
 ta:Nat
 ti:Nat
 te:Nat
def qP(k:IntKind)(l:List Nat):List D:=l.map fun x:Nat=>D.int k (x:Int)
@[simp] theorem qkh (k:IntKind) (l:List Nat):(qP k l).length=l.length:=by simp[qP]
@[simp] theorem qzY (k:IntKind) (l:List Nat):(qP k l).all idFree=true:=by simp[qP,idFree]
@[simp] theorem q9q (k:IntKind) (l:List Nat):idFree.idFreeL (qP k l)=true:=by rw[Qv];exact qzY k l
theorem qeo{k:IntKind}{l:List Nat}{i:Nat}(h:i<l.length):(qP k l).drop i=.int k (l[i]:Nat)::qP k (l.drop (i+1)):=by
 unfold qP;rw[<-List.map_drop,zZ h];rfl
theorem qki(k:IntKind)(a b:List Nat):qP k (a++b)=qP k a++qP k b:=by simp[qP]
instance:Enc HdP:=⟨91,fun h=>.int .u32 h.compat:: .int .u32 h.incompat:: .int .i64 h.state::(qf h.file.l++(qf h.machine.l++(qf h.boot.l++(qf h.seq.l++(qP .u64 h.n++[.int .u32 h.ta,.int .u32 h.ti,.int .u64 h.te]))))),
 fun h=>by simp[h.hn],fun h=>xC⟩
theorem HdP.cells(h:HdP):Enc.cells h=.int .u32 h.compat:: .int .u32 h.incompat:: .int .i64 h.state::(qf h.file.l++(qf h.machine.l++(qf h.boot.l++(qf h.seq.l++(qP .u64 h.n++[.int .u32 h.ta,.int .u32 h.ti,.int .u64 h.te]))))):=rfl
@[simp] theorem HdP.size:Enc.size HdP=91:=rfl
@[simp] theorem HdP.cl (a:HdP):(Enc.cells a).length=91:=Enc.len a
@[simp] theorem HdP.ct (a:HdP) (r:List D):(Enc.cells a++r).take 91=Enc.cells a:=qc6 rfl a r
@[simp] theorem HdP.ct' (a:HdP):(Enc.cells a).take 91=Enc.cells a:=qc5 rfl a
@[simp] theorem HdP.cd (a:HdP) (r:List D):(Enc.cells a++r).drop 91=r:=qc7 rfl a r
@[simp] theorem HdP.el (l:List HdP):(qt l).length=l.length*91:=Kx rfl l
@[simp] theorem HdP.ed (l:List HdP) (i:Nat):(qt l).drop (i*91)=qt (l.drop i):=qa3 rfl l i
@[simp] theorem HdP.et (l:List HdP) (i:Nat):(qt l).take (i*91)=qt (l.take i):=qa2 rfl l i
@[simp high] theorem HdP.ea {l:List HdP} {i:Nat} (h:i<l.length):(qt l).drop (i*91)=Enc.cells l[i]++qt (l.drop (i+1)):=XW rfl h
@[simp high] theorem HdP.es (m:HdP) {l:List HdP} {j:Nat} (h:j<l.length):zU (qt l) (j*91) (Enc.cells m)=qt (l.set j m):=XV rfl m l h
def HdP.g(h:HdP)(i:Nat):Nat:=h.n.getD i 0
theorem HdP.d1(h:HdP):(Enc.cells h).drop 1=.int .u32 h.incompat::(Enc.cells h).drop 2:=xr
theorem HdP.d2(h:HdP):(Enc.cells h).drop 2=.int .i64 h.state::(Enc.cells h).drop 3:=xr
theorem HdP.d3(h:HdP):((Enc.cells h).drop 3).take 16=qf h.file.l:=xr
theorem HdP.d51(h:HdP):((Enc.cells h).drop 51).take 16=qf h.seq.l:=by simp[HdP.cells,jf,List.drop_of_length_le]
theorem HdP.dn(h:HdP){i:Nat}(hi:i<21):(Enc.cells h).drop (67+i)=.int .u64 (h.g i:Nat)::(Enc.cells h).drop (68+i):=by
 have c:i<h.n.length:=by rw[h.hn];exact hi
 have key:∀j,j<=21->(Enc.cells h).drop (67+j)=(qP .u64 h.n++([.int .u32 h.ta,.int .u32 h.ti,.int .u64 h.te]:List D)).drop j:=by
  intro j d
  have b:∀(k:Nat)(l r:List D)(a:Nat),l.length=a->(l++r).drop (a+k)=r.drop k:=by
   intro k l r a c;rw[<-ky,KH c]
  rw[HdP.cells,show 67+j=(16+(16+(16+(16+j))))+1+1+1 from wC,List.drop_succ_cons,List.drop_succ_cons,List.drop_succ_cons,b _ _ _ 16 wE,b _ _ _ 16 wE,b _ _ _ 16 wE,b _ _ _ 16 wE]
 rw[key i wC,show 68+i=67+(i+1) from wC,key (i+1) wC,List.drop_append_of_le_length wG,List.drop_append_of_le_length (by simp[h.hn];omega),qeo c,kC];congr 2
 .simp[HdP.g,c]
 .unfold qP;rw[List.map_drop]
def HdP.siz(h:HdP):Nat:=h.g 0
def HdP.arena(h:HdP):Nat:=h.g 1
def HdP.ents(h:HdP):Nat:=h.g 8
def HdP.tseq(h:HdP):Nat:=h.g 9
def HdP.arr(h:HdP):Nat:=h.g 11
def Jh(b:List UInt8)(a:Nat):Nat:=leN ((b.drop a).take 4)
theorem qmo(b:List UInt8)(a:Nat):Jh b a<4294967296:=by
 have h:=qfg ((b.drop a).take 4);have c:((b.drop a).take 4).length<=4:=wG
 exact vh h (zI (qfE wH c) wH)
def qet(b:List UInt8)(a:Nat):ID:=if h:((b.drop a).take 16).length=16 then⟨(b.drop a).take 16,h⟩ else ID.zero
theorem qgu{b:List UInt8}{a:Nat}(h:a+16<=b.length):(qet b a).l=(b.drop a).take 16:=by
 have:((b.drop a).take 16).length=16:=wG
 simp[qet,this]
def qH(b:List UInt8):HdP where
 compat:=Jh b 8
 incompat:=Jh b 12
 state:=(b.getD 16 0).toNat
 file:=qet b 24
 machine:=qet b 40
 boot:=qet b 56
 seq:=qet b 72
 n:=(List.range 21).map fun i=>qU b (88+8*i)
 hn:=wE
 ta:=Jh b 256
 ti:=Jh b 260
 te:=qU b 264
theorem qtt(b:List UInt8){i:Nat}(h:i<21):(qH b).g i=qU b (88+8*i):=by
 simp[qH,HdP.g,h]
theorem qfp(b:List UInt8)(i:Nat):(qH b).g i<18446744073709551616:=by
 by_cases h:i<21
 .rw[qtt b h];exact qeM _ _
 .have:(qH b).g i=0:=by
   simp only[HdP.g,jv];rw[List.getElem?_eq_none (by rw[(qH b).hn];omega)];rfl
  omega
def HdP.endC(h:HdP):Bool:=decide (h.g 0+h.g 1<18446744073709551616)
def HdP.endN(h:HdP):Nat:=if h.g 0+h.g 1<18446744073709551616 then h.g 0+h.g 1 else 0
def qbE(b a c d:Nat):Nat:=
 if a % 8≠0 then 3
 else if c=0\/c % 16≠0 then 5
 else if a<b\/a-b<16\/d<a\/d-a<c then 2
 else 0
def signL:List UInt8:=[76,80,75,83,72,72,82,72]
def hdC(h:HdP)(a:Nat):Nat:=
 if qe9 .u32 h.incompat 4≠0 then 7
 else if 2<h.state then 8
 else if h.g 0<272\/h.g 0 % 8≠0\/h.g 1 % 8≠0 then 5
 else if h.endC=false\/a<h.endN then 2
 else if qbE (h.g 0) (h.g 2) (h.g 3) h.endN≠0 then qbE (h.g 0) (h.g 2) (h.g 3) h.endN
 else qbE (h.g 0) (h.g 4) (h.g 5) h.endN
def vx(b:List UInt8):Nat:=
 if b.length<272 then 22
 else if b.take 8≠signL then 6
 else hdC (qH b) b.length
end Go.Ev
namespace Go.Ev.S
open Go Go.Proofs Go.Ev
structure Sq where
 id:ID
 v:D
 t:Nat
def Sq.c(x:Sq):List D:=VP x.id.l x.v x.t
def vf(l:List Sq):List D:=l.flatMap Sq.c
@[simp] theorem Sq.len (x:Sq):x.c.length=18:=by simp[Sq.c,VP]
theorem KA:∀l:List Sq,(vf l).length=18*l.length
 |[]=>rfl
 |x::l=>by
  have:=KA l;simp only[vf,List.flatMap_cons,zp,Sq.len,jA] at *;omega
theorem qln(l m:List Sq):vf (l++m)=vf l++vf m:=by simp[vf]
theorem qu6:∀(l:List Sq)(j:Nat),(vf l).drop (j*18)=vf (l.drop j)
 |l,0=>by simp
 |[],j+1=>by simp[vf]
 |x::l,j+1=>by
  have a:=qu6 l j;rw[List.drop_succ_cons,<-a,show(j+1)*18=18+j*18 from wC,<-ky];congr 1;simp only[vf,List.flatMap_cons];rw[List.drop_append_of_le_length wE,List.drop_of_length_le wE,QY]
theorem qlk{l:List Sq}{j:Nat}{x:Sq}(b:l[j]?=some x):((vf l).drop (j*18)).take 18=x.c:=by
 obtain⟨a,rfl⟩:=List.getElem?_eq_some_iff.1 b;rw[qu6,zZ a];simp only[vf,List.flatMap_cons];rw[List.take_append_of_le_length wE,qJ wE]
theorem qy9[MaxL][TxtC]{H:qe}{q:Nat}{h:HdP}(k:qd H q=some (Enc.cells h))(x:Sq)(hx:closed H.length x.v=true):∃T,call cx 71 [.agg x.c,.optr q (Enc.cells h).length 0] H=some (.bool (x.id==h.seq),T)/\Ext [] H T:=by
 obtain⟨m,d⟩:=ql (qr H x.c);have f:=zJ d;have j:=js d;have n:=f.get k wE;have b:=h.d51;have p:67<=(Enc.cells h).length:=by simp[HdP.cells,h.hn]
 have e:List.take 16 x.c=qf x.id.l:=by simp[Sq.c,VP]
 have g:x.c.all (closed H.length)=true:=by
  simp only[Sq.c,VP,List.all_append,ql7,Vc,List.all_nil,hx];rfl
 have a:=eq_true (List.all_eq_true.1 g);have i:=Sq.len x;have o:16<=(Enc.cells h).length-51:=wC
 refine⟨m,jy Tryz.func71 rfl ⟨rfl,rfl⟩ ?_,f⟩;generalize Enc.cells h=C at *;generalize x.c=B at *;simp[-qd,-qr,Tryz.f71,d,j,n,a,i,e,b,o]
def qvP(H:qe)(l:List Sq)(id:ID)(q:D×qe):Prop:=Ext [] H q.2/\((q.1=.int .i64 (-1)/\∀x,x∈l->x.id≠id)\/∃(j:Nat)(x:Sq),q.1=.int .i64 (j:Nat)/\l[j]?=some x/\x.id=id/\∀i y,l[i]?=some y->i<j->y.id≠id)
theorem q2J[MaxL][TxtC]{H:qe}{v:D}{l:List Sq}{L:List Nat}(P:RowA H 18 v (vf l) L)(N:∀x,x∈l->closed H.length x.v=true)(U:l.length<1000000){q:Nat}{h:HdP}(R:qd H q=some (Enc.cells h)):
  ∃r,call cx 70 [v,.fn 71 [.optr q (Enc.cells h).length 0]] H=some r/\qvP H l h.seq r:=by
 refine vz (X:=cx) (f:=70) (qvP H l h.seq) Tryz.func70 rfl ⟨rfl,rfl⟩ ?_;obtain⟨n,I⟩:∃n,n=(Enc.cells h).length:=⟨_,rfl⟩;rw[<-I];rcases P with⟨rfl,S,rfl⟩|⟨p,k,rfl,V,M,rfl⟩
 .have w:l=[]:=by
   have:=KA l;rw[S] at this;exact kx (by simp at this;omega)
  subst w;simp[-qd,Tryz.f70];refine Vd ?_;simp[-qd];exact⟨Ext.refl _ _,.inl ⟨rfl,wE⟩⟩
 have G:=KA l;have Q:k=l.length:=wC
 subst Q;simp[-qd,Tryz.f70];refine Run.loopThen (fun(i:Nat) e T=>i<=l.length/\qi e 0=some (.osl p (vf l).length 0 l.length 18)/\qi e 1=some (.fn 71 [.optr q n 0])/\qi e 7=some (.int .i64 l.length)/\qi e 8=some (.int .i64 i)/\Ext [] H T/\∀j y,l[j]?=some y->j<i->y.id≠h.seq) (fun i=>l.length-i) 0 ?_ ?_
 .exact⟨vg _,wE,wE,wE,wE,Ext.refl _ _,fun _ _ _ h=>absurd h (Nat.not_lt_zero _)⟩
 rintro i e T ⟨Z,E,B,u,A,hx,s⟩;by_cases z:i<l.length
 case neg=>
  have m:=zq z;simp[-qd,E,B,u,A,m]
  exact⟨hx,.inl ⟨rfl,fun x o=>by
   obtain⟨j,b⟩:=List.mem_iff_getElem?.1 o;exact s j x b (by have:=(List.getElem?_eq_some_iff.1 b).1;omega)⟩⟩
 have m:=zn z;obtain⟨x,a⟩:∃x,l[i]?=some x:=⟨_,qN z⟩;have J:=qlk a;have d:=hx.get M wE;obtain⟨Y,c,F⟩:=qy9 (hx.get R wE) x (jr hx.len _ (N x (jH a)));rw[<-I] at c;have O:=qz ((i:Int)+1) ((i+1:Nat):Int);have W:i*18+18<=18*l.length:=wC
 have K:18<=18*l.length-i*18:=wC
 by_cases g:x.id=h.seq
 .rw[show(x.id==h.seq)=true by rw[g];exact beq_self_eq_true _] at c;simp[-qd,E,B,u,A,m,d,G,J,K,c];exact⟨hx.trans F (NewL.refl _ _),.inr ⟨i,x,rfl,a,g,fun j y b t=>s j y b t⟩⟩
 .rw[show(x.id==h.seq)=false from xF] at c;simp[-qd,E,B,u,A,m,d,G,J,K,c,O];refine⟨i+1,wC,wC,wC,hx.trans F (NewL.refl _ _),fun j y b t=>?_⟩;rcases Nat.lt_or_eq_of_le (Nat.le_of_lt_succ t) with C|C
  .exact s j y b C
  .subst C;rw[a] at b;cases b;exact g
def qcM(n:Int):Bool:=n==1||n==2||n==4||n==8
theorem q0C[MaxL][TxtC](n:Int):call cx 257 [.int .i64 n] []=some (.bool (qcM n),[]):=by
 refine qC Tryz.func257 rfl ⟨rfl,rfl⟩ ?_;unfold qcM;by_cases b:n=1
 .subst b;simp[Tryz.f257]
 .by_cases a:n=2
  .subst a;simp[Tryz.f257]
  .by_cases c:n=4
   .subst c;simp[Tryz.f257]
   .simp[Tryz.f257,b,a,c]
theorem qwD{n:Int}(h:qcM n=true):1<=n/\n<=8:=by
 simp[qcM] at h;omega
def qad(l:List UInt8)(at_ n:Int):Option Nat:=
 if qcM n=true/\0<=at_/\at_+n<=l.length then some (leN ((l.drop at_.toNat).take n.toNat)) else none
def qgd(o:Option Nat):D:=.tup [.int .u64 ((o.getD 0:Nat):Int),.bool o.isSome]
theorem bits64:2^IntKind.u64.bits=18446744073709551616:=by simp only[IntKind.bits]
theorem q0F(x y:Nat)(b:y<256)(hx:x*256+y<18446744073709551616):
  Vx .u64 (IntKind.u64.wrap ((x:Int)*256)) (y:Int)=((x*256+y:Nat):Int):=by
 have a:x*256<2^IntKind.u64.bits:=Nat.lt_of_lt_of_eq (Nat.lt_of_le_of_lt (Nat.le_add_right _ _) hx) bits64.symm;have c:y<2^IntKind.u64.bits:=Nat.lt_of_lt_of_eq (vh b wH) bits64.symm;have d:IntKind.u64.wrap ((x:Int)*256)=((x*256:Nat):Int):=by clear a c;rw[qaF]<;>omega
 rw[d,qjU rfl a c,qoe x y b]
theorem qkz[MaxL][TxtC](s:Sl UInt8)(at_ n:Int)(J:-9223372036854775808<=at_/\at_<9223372036854775808)(I:s.l.length<4611686018427387904):
  call cx 221 [(.vsl s.nil (qf s.l) s.l.length),.int .i64 at_,.int .i64 n] []=some (qgd (qad s.l at_ n),[]):=by
 have c:=q0C n;refine qC Tryz.func221 rfl ⟨rfl,rfl⟩ ?_;cases b:qcM n with
 |false=>
  rw[b] at c;simp[Tryz.f221,c,qad,b,qgd]
 |true=>
  rw[b] at c;have L:=qwD b;by_cases d:at_<0
  .have g:¬0<=at_:=by omega
   simp[Tryz.f221,c,qad,b,qgd,d,g]
  .have g:0<=at_:=by omega
   have w:=qz ((s.l.length:Int)-n) ((s.l.length:Int)-n);by_cases f:at_+n<=s.l.length
   .have h:¬((s.l.length:Int)-n<at_):=wC;obtain⟨a,rfl⟩:∃a:Nat,at_=a:=⟨at_.toNat,wC⟩
    obtain⟨k,rfl⟩:∃k:Nat,n=k:=⟨n.toNat,wC⟩;have E:=qz ((k:Int)-1) ((k:Int)-1);have p:s.nil=false:=Sl.nn (i:=a) wC;simp[Tryz.f221,c,qad,b,qgd,d,g,w,f,h,E,p];refine Run.loopThen (fun(i:Nat) e H=>i<=k/\H=[]/\qi e 0=some (.vsl s.nil (qf s.l) s.l.length)/\qi e 1=some (.int .i64 a)/\qi e 8=some (.int .u64 (leN ((s.l.drop (a+i)).take (k-i)):Nat))/\qi e 9=some (.int .i64 ((i:Int)-1))) (fun i=>i) k (by simp[leN,p]) ?_;rintro i e H ⟨hi,rfl,d,u,x,r⟩;cases i with
    |zero=>simp[d,u,x,r]
    |succ j=>
     have C:(0:Int)<=(j:Int):=wC;have o:=qz ((a:Int)+(j:Int)) ((a+j:Nat):Int);have m:=qz ((j:Int)-1) ((j:Int)-1);have v:a+j<s.l.length:=wC;have K:((a+j:Nat):Int)<(s.l.length:Int):=wC;have z:((j+1:Nat):Int)-1=(j:Int):=wC;rw[z] at r
     have G:(s.l.drop (a+j)).take (k-j)=s.l[a+j]::(s.l.drop (a+(j+1))).take (k-(j+1)):=by
      rw[zZ v,show k-j=(k-(j+1))+1 from wC,List.take_succ_cons,qgV]
     have A:leN ((s.l.drop (a+(j+1))).take (k-(j+1)))<256^7:=by
      refine vh (qfg _) (qfE wH ?_);rw[jj];omega
     have t:=q0F (leN ((s.l.drop (a+(j+1))).take (k-(j+1)))) s.l[a+j].toNat s.l[a+j].toNat_lt (by have:=s.l[a+j].toNat_lt;omega);have q:IntKind.u64.wrap (s.l[a+j].toNat:Int)=(s.l[a+j].toNat:Int):=(by rw[qaF];have:=s.l[a+j].toNat_lt;omega);have B:(0:Int)<=(a:Int)+(j:Int):=wC;have F:(a:Int)+(j:Int)<(s.l.length:Int):=wC;have y:((a:Int)+(j:Int)).toNat=a+j:=wC;simp[d,u,x,r,C,o,m,q,p,B,F,y,vE v,IntKind.bits];rw[t];exact⟨j,wC,wC,by rw[G,leN,Nat.mul_comm,Nat.add_comm],rfl⟩
   .have h:(s.l.length:Int)-n<at_:=by omega
    simp[Tryz.f221,c,qad,b,qgd,d,g,w,f,h]
theorem qbR[MaxL][TxtC](s:Sl UInt8)(a:Nat)(h:a+8<=s.l.length)(c:s.l.length<4611686018427387904){x:Int}(hx:x=a):call cx 221 [(.vsl s.nil (qf s.l) s.l.length),.int .i64 x,.int .i64 8] []=some (.tup [.int .u64 (qU s.l a:Nat),.bool true],[]):=by
 subst hx;have:=qkz s a 8 wC c;rw[this]
 have b:qad s.l a 8=some (qU s.l a):=by
  unfold qad qU;simp[qcM];omega
 rw[b];rfl
theorem q0G[MaxL][TxtC](s:Sl UInt8)(a:Nat)(h:a+4<=s.l.length)(c:s.l.length<4611686018427387904){x:Int}(hx:x=a):call cx 221 [(.vsl s.nil (qf s.l) s.l.length),.int .i64 x,.int .i64 4] []=some (.tup [.int .u64 (Jh s.l a:Nat),.bool true],[]):=by
 subst hx;have:=qkz s a 4 wC c;rw[this]
 have b:qad s.l a 4=some (Jh s.l a):=by
  unfold qad Jh;simp[qcM];omega
 rw[b];rfl
def JT(b:List UInt8)(a:Nat):D:=if kV b a=0 then .agg [.int .i64 (qaz b a:Nat),.int .i64 0,.int .u64 (ZY b a:Nat)] else .agg [.int .i64 0,.int .i64 0,.int .u64 0]
theorem qop[MaxL][TxtC](s:Sl UInt8)(V:s.l.length<=1000000)(a:Nat)(X:a<18446744073709551616):call cx 274 [(.vsl s.nil (qf s.l) s.l.length),.int .u64 a] []=some (.tup [JT s.l a,.int .i64 (kV s.l a)],[]):=by
 refine qC Tryz.func274 rfl ⟨rfl,rfl⟩ ?_;have h:=zg (s.l.length:Int) (s.l.length:Int);have G:(a:Int).tmod 8=((a % 8:Nat):Int):=rfl;by_cases B:a % 8≠0
 .have b:kV s.l a=3:=by unfold kV;rw[if_pos B]
  have e:((a:Int).tmod 8 !=0)=true:=by rw[G];simp only[bne_iff_ne,ne_eq];omega
  simp[Tryz.f274,JT,b,h,e]
 have e:((a:Int).tmod 8 !=0)=false:=by rw[G];simp only[bne_eq_false_iff_eq];omega
 by_cases M:s.l.length<a\/s.l.length-a<16
 .have b:kV s.l a=2:=by unfold kV;rw[if_neg B,if_pos M]
  by_cases H:s.l.length<a
  .have f:=zn H;simp[Tryz.f274,JT,b,h,e,f]
  .have f:=zq H;have j:=zg ((s.l.length:Int)-(a:Int)) ((s.l.length:Int)-(a:Int));have k:(s.l.length:Int)-(a:Int)<16:=wC;simp[Tryz.f274,JT,b,h,e,f,j,k]
 have f:¬(s.l.length:Int)<(a:Int):=wC
 have j:=zg ((s.l.length:Int)-(a:Int)) ((s.l.length:Int)-(a:Int));have k:¬(s.l.length:Int)-(a:Int)<16:=wC
 have E:a<s.l.length:=wC
 have z:a+1<s.l.length:=wC
 have p:s.nil=false:=Sl.nn E;have i:=qbR s (a+8) wC wC (x:=(a:Int)+8) wC;have w:(a:Int)<(s.l.length:Int):=wC
 have t:(a:Int)+1<(s.l.length:Int):=wC
 have u:=zg ((a:Int)+1) ((a:Int)+1);have r:=qz (a:Int) (a:Int);have w3:=qz ((a:Int)+8) ((a:Int)+8);have v:=vE E;have o:=vE z;have W:=s.l[a].toNat_lt;have Y:=s.l[a+1].toNat_lt;have L:(s.l.getD a 0).toNat=s.l[a].toNat:=by simp[E]
 have P:(s.l.getD (a+1) 0).toNat=s.l[a+1].toNat:=by simp[z]
 have n2:((a:Int)+1).toNat=a+1:=wC
 have U:=qeM s.l (a+8)
 have b:kV s.l a=if s.l[a].toNat<1\/7<s.l[a].toNat then 4 else if s.l[a+1].toNat≠0 then 7 else if qU s.l (a+8)<16 then 5 else if s.l.length-a<qU s.l (a+8) then 2 else 0:=by
  unfold kV;rw[if_neg B,if_neg M,L,P]
 have Q:qaz s.l a=s.l[a].toNat:=L;obtain⟨S,I⟩:=ql (qU s.l (a+8));have C:ZY s.l a=S:=I;rw[I] at b i U;generalize s.l[a]=K at *;generalize s.l[a+1]=F at *;have q:=qz (K.toNat:Int) (K.toNat:Int);have A:=qz (F.toNat:Int) (F.toNat:Int);have y:(0:Int)<=(a:Int)+1:=wC
 rw[p] at i;have Z:(0:Nat)<4:=wC
 by_cases T:K.toNat<1
 .rw[if_pos (.inl T)] at b;have c:(K.toNat:Int)<1:=by omega
  simp[Tryz.f274,JT,b,h,e,f,j,k,p,w,t,y,u,r,w3,v,o,n2,q,A,i,c]
 have c:¬(K.toNat:Int)<1:=wC
 by_cases R:7<K.toNat
 .rw[if_pos (.inr R)] at b;have d:(7:Int)<(K.toNat:Int):=by omega
  simp[Tryz.f274,JT,b,h,e,f,j,k,p,w,t,y,u,r,w3,v,o,n2,q,A,i,c,d]
 have d:¬(7:Int)<(K.toNat:Int):=wC
 rw[if_neg wC] at b;by_cases J:F.toNat≠0
 .rw[if_pos J] at b;have n:((F.toNat:Int) !=0)=true:=VJ;simp[Tryz.f274,JT,b,h,e,f,j,k,p,w,t,y,u,r,w3,v,o,n2,q,A,i,c,d,n]
 rw[if_neg J] at b;have n:F.toNat=0:=wC
 rw[n] at A o;by_cases O:S<16
 .rw[if_pos O] at b;have g:(S:Int)<16:=by omega
  simp[Tryz.f274,JT,b,h,e,f,j,k,p,w,t,y,u,r,w3,v,o,n2,q,i,c,d,g]
 have g:¬(S:Int)<16:=wC
 rw[if_neg O] at b;by_cases N:s.l.length-a<S
 .rw[if_pos N] at b;have m:(s.l.length:Int)-(a:Int)<(S:Int):=by omega
  simp[Tryz.f274,JT,b,h,e,f,j,k,p,w,t,y,u,r,w3,v,o,n2,q,i,c,d,g,m]
 .rw[if_neg N] at b;have m:¬(s.l.length:Int)-(a:Int)<(S:Int):=by omega
  simp[Tryz.f274,JT,b,h,e,f,j,k,p,w,t,y,u,r,w3,v,o,n2,q,i,c,d,g,m,Q,C]
def ZJ(b:List UInt8)(a kind c d:Nat):D:=if ke b a kind c d=0 then .vsl false (qf (qR b a)) (qR b a).length else .vsl true [] 0
theorem quB[MaxL][TxtC](s:Sl UInt8)(H:s.l.length<=1000000)(a:Nat)(P:a<18446744073709551616)(kind b c:Nat)(V:kind<=100)(Q:b<=100)(U:1<=c/\c<=100):
  call cx 258 [(.vsl s.nil (qf s.l) s.l.length),.int .u64 a,.int .i64 kind,.int .i64 b,.int .i64 c] []=some (.tup [ZJ s.l a kind b c,.int .i64 (ke s.l a kind b c)],[]):=by
 have f:=qop s H a P;refine qC Tryz.func258 rfl ⟨rfl,rfl⟩ ?_;have n:=qz (16+(b:Int)) (16+(b:Int));have o:=zg (16+(b:Int)) (16+(b:Int));by_cases k:kV s.l a≠0
 .have e:ke s.l a kind b c=kV s.l a:=by unfold ke;rw[if_pos k]
  have g:ZJ s.l a kind b c=.vsl true [] 0:=by unfold ZJ;rw[e,if_neg k]
  have q:JT s.l a=.agg [.int .i64 0,.int .i64 0,.int .u64 0]:=by unfold JT;rw[if_neg k]
  rw[q] at f;have h:(((kV s.l a:Nat):Int) !=0)=true:=VJ;obtain⟨C,u⟩:=ql (kV s.l a);rw[u] at f e h;rw[g,e];simp[Tryz.f258,f,n,o,h]
 have h:kV s.l a=0:=wC
 obtain⟨W,X,L,T,F,N⟩:=qez h;have q:JT s.l a=.agg [.int .i64 (qaz s.l a:Nat),.int .i64 0,.int .u64 (ZY s.l a:Nat)]:=by unfold JT;rw[if_pos h]
 rw[q,h] at f;obtain⟨K,m⟩:=ql (qaz s.l a);obtain⟨S,j⟩:=ql (ZY s.l a);rw[m,j] at f;rw[m] at L T;rw[j] at F N;by_cases y:K=kind
 rotate_left
 .have e:ke s.l a kind b c=4:=by unfold ke;rw[if_neg k,m,if_pos y]
  have g:ZJ s.l a kind b c=.vsl true [] 0:=yP
  have J:((K:Int) !=(kind:Int))=true:=VJ;rw[g,e];simp[Tryz.f258,f,n,o,J]
 subst y;by_cases O:S<=16+b
 .have e:ke s.l a K b c=5:=by unfold ke;rw[if_neg k,m,if_neg wE,j,if_pos (.inl O)]
  have g:ZJ s.l a K b c=.vsl true [] 0:=yP
  have p:(S:Int)<=16+(b:Int):=wC
  rw[g,e];simp[Tryz.f258,f,n,o,p]
 have p:¬(S:Int)<=16+(b:Int):=wC
 obtain⟨d,E⟩:∃d:Nat,S-(16+b)=d:=⟨_,rfl⟩;have z:IntKind.u64.wrap ((S:Int)-(16+(b:Int)))=(d:Int):=by rw[qaF];all_goals omega
 have x:=zg (c:Int) (c:Int);have A:¬c=0:=wC
 have w:(d:Int).tmod (c:Int)=((d % c:Nat):Int):=rfl;by_cases G:d % c≠0
 .have e:ke s.l a K b c=5:=by unfold ke;rw[if_neg k,m,if_neg wE,j,E,if_pos (.inr G)]
  have g:ZJ s.l a K b c=.vsl true [] 0:=yP
  have r:((d:Int).tmod (c:Int) !=0)=true:=by rw[w];simp only[bne_iff_ne,ne_eq];omega
  rw[g,e];simp[Tryz.f258,f,n,o,p,z,x,A,r]
 .have e:ke s.l a K b c=0:=by unfold ke;rw[if_neg k,m,if_neg wE,j,E,if_neg wC]
  have g:ZJ s.l a K b c=.vsl false (qf (qR s.l a)) (qR s.l a).length:=yP
  have r:((d:Int).tmod (c:Int) !=0)=false:=by rw[w];simp only[bne_eq_false_iff_eq];omega
  have I:=qf7 h;have B:s.nil=false:=Sl.nn (i:=a) wC;have v:=zg ((a:Int)+16) ((a:Int)+16);have t:=zg ((a:Int)+(S:Int)) ((a:Int)+(S:Int));have R:(0:Int)<=(a:Int)+(S:Int)/\(a:Int)+(S:Int)<=(s.l.length:Int)/\(0:Int)<=(a:Int)+16/\(a:Int)+16<=(a:Int)+(S:Int):=wC
  have n1:((a:Int)+16).toNat=a+16:=wC
  have n2:((a:Int)+(S:Int)).toNat=a+S:=wC
  have n3:a+S-(a+16)=S-16:=wC
  have M:qR s.l a=(s.l.drop (a+16)).take (S-16):=by unfold qR;rw[j]
  rw[g,e,I,j];rw[B] at f;simp[Tryz.f258,f,n,o,p,z,x,A,r,B,v,t,R,n1,n2,n3,M];simp[qf,List.map_take,List.map_drop]
end Go.Ev.S
namespace Go.Ev
open Go Go.Proofs
def zi(l:List Nat):List D:=l.map fun x=>.int .u64 (x:Nat)
@[simp] theorem qaU (l:List Nat):(zi l).length=l.length:=by simp[zi]
theorem qkk(l:List Nat)(x:Nat):zi (l++[x])=zi l++[.int .u64 (x:Nat)]:=by simp[zi]
@[simp] theorem qoz:zi []=[]:=rfl
theorem qzZ(x:Nat)(l:List Nat):zi (x::l)=.int .u64 (x:Nat)::zi l:=rfl
@[simp] theorem qlQ (s:List Nat):(zi s).all idFree=true:=by simp[zi,idFree]
@[simp] theorem q6A (n:Nat) (s:List Nat):(zi s).all (closed n)=true:=by simp[zi,closed]
@[simp] theorem qv6 (s:List Nat):(zi s).all vFree=true:=by simp[zi,vFree]
@[simp] theorem q2U (s:List Nat):idFree.idFreeL (zi s)=true:=by rw[Qv];exact qlQ s
@[simp] theorem q6V (s:List Nat):vFree.vFreeL (zi s)=true:=by exact(qhd _).2 (List.all_eq_true.1 (qv6 s))
@[simp] theorem qAj (n:Nat) (s:List Nat):closed.closedL n (zi s)=true:=qa4 n _ (q2U s)
@[simp] theorem q6X {s:List Nat} {n:Nat} (h:s.length<=n):(zi s).take n=zi s:=qJ wQ
@[simp] theorem qkj (s:List Nat):(∀x,x∈zi s->idFree x=true)=True:=eq_true (List.all_eq_true.1 (qlQ s))
@[simp] theorem q9s (s:List Nat) (n:Nat):(∀x,x∈zi s->closed n x=true)=True:=eq_true (List.all_eq_true.1 (q6A n s))
@[simp] theorem q9r (s:List Nat):(∀x,x∈zi s->vFree x=true)=True:=eq_true (List.all_eq_true.1 (qv6 s))
def qiT(d:D)(H:qe)(l:List D):Prop:=(d=.vsl true [] 0/\l=[]/\H=[])\/(d=.osl 0 l.length 0 l.length 1/\H=[some l]/\l≠[])
theorem qor{l:List UInt8}{k:Nat}(h:k<l.length/8):(jV l).take (k+1)=(jV l).take k++[qU l (8*k)]:=by
 rw[List.take_add_one,qzM h];rfl
end Go.Ev
